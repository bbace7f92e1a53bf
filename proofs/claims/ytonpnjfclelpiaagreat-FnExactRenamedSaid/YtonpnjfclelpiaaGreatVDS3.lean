import Derived.Test.YtonpnjfclelpiaaGreatVDS1
import Derived.Test.YtonpnjfclelpiaaGreatVDS2
namespace Go.Proofs.YtonpnjfclelpiaaGreatM
open Go
set_option linter.unusedVariables false
set_option linter.unusedSimpArgs false
set_option maxRecDepth 100000
set_option maxHeartbeats 4000000
attribute [local irreducible] PW CK EK C2 PXM XK LX axK rdK thK blK FK SK LK AK GK CD unK TT keK
theorem v_IndexFunc_int (g : FuncId) (cs : List FV) (P : Int → Bool) (hmu : ∀ i, MU g i = 0) (hps : g ≠ 4294967295) (l : List Int) (hl : l.length < 4611686018427387904) (hg : ∀ x ∈ l, C2 CC g (.fv ((FV.int .i64) x) :: cs.map .fv) (bv (P x)) []) : C2 CC F_slices_IndexFunc_int [.fv (.row 1 (l.map (FV.int .i64))), .fv (.fn g [] cs)] (iv (idxP P l 0)) [] := by
 refine cw (keepF Tryz.f55) Tryz.f55 false ?_
 repeat' first | refine g0 ?_ | refine d0 ?_ | refine j0 (fun hg hgo => ?_) fun hg hgo => ?_ | refine ek_ret ?_ | refine ek_norm ?_ | refine ⟨by omega, ?_⟩ | rfl | trivial | intro _
 refine pw_loop (fun m st => ∃ j : Nat, j + m = l.length ∧ (∀ i (h : i < l.length), i < j → P l[i] = false) ∧ st = [(0, .fv (.row 1 (l.map (FV.int .i64)))), (1, .fv (.fn g [] cs)), (7, iv l.length), (8, iv j)]) l.length [(0, .fv (.row 1 (l.map (FV.int .i64)))), (1, .fv (.fn g [] cs)), (7, iv l.length), (8, iv (0 : Nat))] (sub_of ?_) ⟨0, by omega, fun i _ hi => by omega, rfl⟩ ?_
 ·exact dn
 ·rintro m st ⟨j, hj, hb, rfl⟩
  have hidx := idxP_at P l j 0 hb
  by_cases hlt : j < l.length
  ·have hd : decide ((j : Int) < (l.length : Int)) = true := by rw [decide_eq_true_eq]; omega
   have hml : j < (l.map (FV.int .i64)).length := by rw [List.length_map]; exact hlt
   have hel := hg l[j] (List.getElem_mem hlt)
   have hidx2 : idxP P l 0 = if P l[j] = true then (j : Int) else idxP P (l.drop (j + 1)) (j + 1) := by
    rw [hidx, List.drop_eq_getElem_cons hlt, idxP]; simp
   replace hb : True → _ := fun _ => hb
   repeat' first | refine ck_intro (by first | exact hel) ?_ ?_ | refine g3 @hd @hmu @hps ?_ | refine d3 @hd @hmu @hps ?_ | refine j3 @hd @hmu @hps (fun hg hgo => ?_) fun hg hgo => ?_ | refine ek_ret ?_ | refine ek_norm ?_ | refine ⟨by omega, ?_⟩ | rfl | trivial | intro _
   ·rw [hidx2, if_pos (by simpa using hg)]
   ·refine rd_norm [(0, .fv (.row 1 (l.map (FV.int .i64)))), (1, .fv (.fn g [] cs)), (7, iv l.length), (8, iv (j + 1 : Nat))] (sub_of ?_) (m - 1) (by omega) ⟨j + 1, by omega, fun i hi h1 => ?_, rfl⟩
    ·exact dn
    ·by_cases h2 : i = j
     ·subst h2; simpa using hg
     ·exact hb trivial i hi (by omega)
  ·have hd : decide ((j : Int) < (l.length : Int)) = false := by rw [decide_eq_false_iff_not]; omega
   have hidx2 : idxP P l 0 = -1 := by
    rw [hidx, List.drop_eq_nil_of_le (by omega)]; rfl
   repeat' first | refine g2 @hd @hidx2 ?_ | refine d2 @hd @hidx2 ?_ | refine j2 @hd @hidx2 (fun hg hgo => ?_) fun hg hgo => ?_ | refine ek_ret ?_ | refine ek_norm ?_ | refine ⟨by omega, ?_⟩ | rfl | trivial | intro _
theorem v_ContainsFunc_int (g : FuncId) (cs : List FV) (P : Int → Bool) (hmu : ∀ i, MU g i = 0) (hps : g ≠ 4294967295) (l : List Int) (hl : l.length < 4611686018427387904) (hg : ∀ x ∈ l, C2 CC g (.fv ((FV.int .i64) x) :: cs.map .fv) (bv (P x)) []) : C2 CC F_slices_ContainsFunc_int [.fv (.row 1 (l.map (FV.int .i64))), .fv (.fn g [] cs)] (bv (l.any P)) [] := by
 rw [← idxP_any P l]
 refine cw (keepF Tryz.f33) Tryz.f33 false ?_
 repeat' first | refine ck_intro (by first | exact v_IndexFunc_int g cs P hmu hps l hl hg) ?_ ?_ | refine g0 ?_ | refine d0 ?_ | refine j0 (fun hg hgo => ?_) fun hg hgo => ?_ | refine ek_ret ?_ | refine ek_norm ?_ | refine ⟨by omega, ?_⟩ | rfl | trivial | intro _
def hAt (h : List Int) (v : Nat) : Int := (h[v]?).getD 0
def homeB (n : Int) : Bool := decide (n ≥ 0) && decide (n ≤ 39)
def badH (h : List Int) (cl : List (List Bool)) (v w : Nat) : Bool := decide (hAt h v = hAt h w) && clAt cl v w
def okH (h : List Int) (cl : List (List Bool)) (v : Nat) : Bool := homeB (hAt h v) && (List.range v).all fun w => !badH h cl v w
def homesB (h : List Int) (cl : List (List Bool)) (V : Nat) : Bool := decide (h.length = V) && (List.range h.length).all (okH h cl)
theorem hAt_lt {h : List Int} {v : Nat} (hv : v < h.length) : hAt h v = h[v] := by unfold hAt; rw [List.getElem?_eq_getElem hv]; rfl
theorem all_no {n : Nat} {p : Nat → Bool} {j : Nat} (hj : j < n) (h : p j = false) : (List.range n).all p = false := by
 rw [List.all_eq_false]; exact ⟨j, List.mem_range.2 hj, by rw [h]; decide⟩
theorem all_yes {n : Nat} {p : Nat → Bool} (h : ∀ j, j < n → p j = true) : (List.range n).all p = true := by
 rw [List.all_eq_true]; exact fun j hj => h j (List.mem_range.1 hj)
theorem v_isHome (n : Int) : C2 CC F_impl_isHome [iv n] (bv (homeB n)) [] := by
 unfold homeB
 refine cw (keepF Tryz.f35) Tryz.f35 false ?_
 repeat' first | refine ck_intro (by first | exact v_in _ _ _) ?_ ?_ | refine g0 ?_ | refine d0 ?_ | refine j0 (fun hg hgo => ?_) fun hg hgo => ?_ | refine ek_ret ?_ | refine ek_norm ?_ | refine ⟨by omega, ?_⟩ | rfl | trivial | intro _
theorem v_HomesOk_1 (n : Int) : C2 CC F_impl_HomesOk_1 [iv n] (bv (!homeB n)) [] := by
 refine cw (keepF Tryz.f34) Tryz.f34 false ?_
 repeat' first | refine ck_intro (by first | exact v_isHome _) ?_ ?_ | refine g0 ?_ | refine d0 ?_ | refine j0 (fun hg hgo => ?_) fun hg hgo => ?_ | refine ek_ret ?_ | refine ek_norm ?_ | refine ⟨by omega, ?_⟩ | rfl | trivial | intro _
theorem v_l13Homes (f : FnD) (h : List Int) (V : Nat) (hdom : Dom f V) (hh : h.length < 1073741824) : C2 CC F_spec_l13Homes [.fv (fnF f), .fv (intR h)] (bv (homesB h (clashF f) V)) [] := by
 have h3 := s_Clashes f V hdom
 have hok := clashF_ok hdom
 have hval := hdom.val
 have hsm := hdom.small
 generalize clashF f = cl at h3 hok
 have hcl := hok.len
 obtain ⟨blocks, values⟩ := f
 simp only at hval
 subst hval
 unfold homesB
 by_cases hlv : h.length = V
 ·have hlz : ((h.length : Int) != (V : Int)) = false := by rw [bne_eq_false_iff_eq]; omega
  rw [decide_eq_true hlv, Bool.true_and]
  refine cw (keepF Tryz.f28) Tryz.f28 false ?_
  repeat' first | refine ck_intro (by first | exact h3) ?_ ?_ | refine pd3 32 [0, 0, 3, 7, 0, 0, 48, 112, 255, 511, 1023, 1023, 4095, 8191, 1023, 32767, 65535, 131071] [0, 0, 0, 1, 0, 0, 0, 1, 0, 0, 0, 0, 0, 1, 0, 0, 1, 0] false ?_ | refine g1 @hlz ?_ | refine d1 @hlz ?_ | refine j1 @hlz (fun hg hgo => ?_) fun hg hgo => ?_ | refine ek_ret ?_ | refine ek_norm ?_ | refine ⟨by omega, ?_⟩ | rfl | trivial | intro _
  refine pw_loop (fun m st => ∃ j : Nat, j + m = h.length ∧ (∀ i, i < j → okH h cl i = true) ∧ st = [(1, .fv (intR h)), (5, .own 1 (insO cl)), (6, iv j)]) h.length [(1, .fv (intR h)), (5, .own 1 (insO cl)), (6, iv (0 : Nat))] (sub_of ?_) ⟨0, by omega, fun i hi => by omega, rfl⟩ ?_
  ·exact dn
  ·rintro m st ⟨j, hj, hb, rfl⟩
   by_cases hlt : j < h.length
   ·have hd : decide ((j : Int) < (h.length : Int)) = true := by rw [decide_eq_true_eq]; omega
    have hml : j < (h.map (FV.int .i64)).length := by rw [List.length_map]; exact hlt
    have hat := hAt_lt hlt
    have hjc : j < cl.length := by omega
    have hgi := insO_get hjc
    have hrow := hok.row _ (List.getElem_mem hjc)
    replace hb : True → _ := fun _ => hb
    cases hhm : (decide (h[j] ≥ 0) && decide (h[j] ≤ 39)) with
    | false =>
     have hno : okH h cl j = false := by unfold okH homeB; rw [hat, hhm]; rfl
     rw [all_no hlt hno]
     repeat' first | refine ck_intro (by first | exact v_l1In _ _ _) ?_ ?_ | refine g2 @hd @hhm ?_ | refine d2 @hd @hhm ?_ | refine j2 @hd @hhm (fun hg hgo => ?_) fun hg hgo => ?_ | refine ek_ret ?_ | refine ek_norm ?_ | refine ⟨by omega, ?_⟩ | rfl | trivial | intro _
    | true =>
     repeat' first | refine ck_intro (by first | exact v_l1In _ _ _) ?_ ?_ | refine g2 @hd @hhm ?_ | refine d2 @hd @hhm ?_ | refine j2 @hd @hhm (fun hg hgo => ?_) fun hg hgo => ?_ | refine ek_ret ?_ | refine ek_norm ?_ | refine ⟨by omega, ?_⟩ | rfl | trivial | intro _
     refine pw_loop (fun m st => ∃ k : Nat, k + m = j ∧ (∀ i, i < k → badH h cl j i = false) ∧ st = [(1, .fv (intR h)), (5, .own 1 (insO cl)), (6, iv j), (7, iv k)]) j [(1, .fv (intR h)), (5, .own 1 (insO cl)), (6, iv j), (7, iv (0 : Nat))] (sub_of ?_) ⟨0, by omega, fun i hi => by omega, rfl⟩ ?_
     ·exact dn
     ·rintro m2 st ⟨k, hk, hb2, rfl⟩
      by_cases hlk : k < j
      ·have hdk : decide ((k : Int) < (j : Int)) = true := by rw [decide_eq_true_eq]; omega
       have hkh : k < h.length := by omega
       have hmk : k < (h.map (FV.int .i64)).length := by rw [List.length_map]; omega
       have hkc : k < cl[j].length := by omega
       have hgb := bools_get hkc
       have hck := clAt_lt hjc hkc
       have hak := hAt_lt hkh
       replace hb2 : True → _ := fun _ => hb2
       have hbad : badH h cl j k = ((h[j] == h[k]) && cl[j][k]) := by unfold badH; rw [hat, hak, hck, beqD]
       cases hq : (h[j] == h[k]) with
       | false =>
        rw [hq, Bool.false_and] at hbad
        repeat' first | refine pd3 32 [0, 0, 3, 7, 0, 0, 48, 112, 255, 511, 1023, 1023, 4095, 8191, 1023, 32767, 65535, 131071] [0, 0, 0, 1, 0, 0, 0, 1, 0, 0, 0, 0, 0, 1, 0, 0, 1, 0] false ?_ | refine g4 @hdk @hgi @hgb @hq ?_ | refine d4 @hdk @hgi @hgb @hq ?_ | refine j4 @hdk @hgi @hgb @hq (fun hg hgo => ?_) fun hg hgo => ?_ | refine ek_ret ?_ | refine ek_norm ?_ | refine ⟨by omega, ?_⟩ | rfl | trivial | intro _
        refine rd_norm [(1, .fv (intR h)), (5, .own 1 (insO cl)), (6, iv j), (7, iv (k + 1 : Nat))] (sub_of ?_) (m2 - 1) (by omega) ⟨k + 1, by omega, fun i hi => ?_, rfl⟩
        ·exact dn
        ·by_cases hik : i = k
         ·subst hik; exact hbad
         ·exact hb2 trivial i (by omega)
       | true =>
        rw [hq, Bool.true_and] at hbad
        repeat' first | refine pd3 32 [0, 0, 3, 7, 0, 0, 48, 112, 255, 511, 1023, 1023, 4095, 8191, 1023, 32767, 65535, 131071] [0, 0, 0, 1, 0, 0, 0, 1, 0, 0, 0, 0, 0, 1, 0, 0, 1, 0] false ?_ | refine g4 @hdk @hgi @hgb @hq ?_ | refine d4 @hdk @hgi @hgb @hq ?_ | refine j4 @hdk @hgi @hgb @hq (fun hg hgo => ?_) fun hg hgo => ?_ | refine ek_ret ?_ | refine ek_norm ?_ | refine ⟨by omega, ?_⟩ | rfl | trivial | intro _
        ·have hno : okH h cl j = false := by unfold okH; rw [all_no hlk (by rw [hbad, hg]; rfl), Bool.and_false]
         rw [all_no hlt hno]
        ·refine rd_norm [(1, .fv (intR h)), (5, .own 1 (insO cl)), (6, iv j), (7, iv (k + 1 : Nat))] (sub_of ?_) (m2 - 1) (by omega) ⟨k + 1, by omega, fun i hi => ?_, rfl⟩
         ·exact dn
         ·by_cases hik : i = k
          ·subst hik; rw [hbad, hg]
          ·exact hb2 trivial i (by omega)
      ·have hdk : decide ((k : Int) < (j : Int)) = false := by rw [decide_eq_false_iff_not]; omega
       have hok2 : okH h cl j = true := by
        unfold okH homeB; rw [hat, hhm, Bool.true_and]
        exact all_yes fun i hi => by rw [hb2 i (by omega)]; rfl
       repeat' first | refine g1 @hdk ?_ | refine d1 @hdk ?_ | refine j1 @hdk (fun hg hgo => ?_) fun hg hgo => ?_ | refine ek_ret ?_ | refine ek_norm ?_ | refine ⟨by omega, ?_⟩ | rfl | trivial | intro _
       refine rd_norm [(1, .fv (intR h)), (5, .own 1 (insO cl)), (6, iv (j + 1 : Nat))] (sub_of ?_) (m - 1) (by omega) ⟨j + 1, by omega, fun i hi => ?_, rfl⟩
       ·exact dn
       ·by_cases hij : i = j
        ·subst hij; exact hok2
        ·exact hb trivial i (by omega)
   ·have hd : decide ((j : Int) < (h.length : Int)) = false := by rw [decide_eq_false_iff_not]; omega
    rw [all_yes fun i hi => hb i (by omega)]
    repeat' first | refine g1 @hd ?_ | refine d1 @hd ?_ | refine j1 @hd (fun hg hgo => ?_) fun hg hgo => ?_ | refine ek_ret ?_ | refine ek_norm ?_ | refine ⟨by omega, ?_⟩ | rfl | trivial | intro _
 ·have hlz : ((h.length : Int) != (V : Int)) = true := by rw [bne_iff_ne]; omega
  rw [decide_eq_false hlv, Bool.false_and]
  refine cw (keepF Tryz.f28) Tryz.f28 false ?_
  repeat' first | refine ck_intro (by first | exact h3) ?_ ?_ | refine pd3 32 [0, 0, 3, 7, 0, 0, 48, 112, 255, 511, 1023, 1023, 4095, 8191, 1023, 32767, 65535, 131071] [0, 0, 0, 1, 0, 0, 0, 1, 0, 0, 0, 0, 0, 1, 0, 0, 1, 0] false ?_ | refine g1 @hlz ?_ | refine d1 @hlz ?_ | refine j1 @hlz (fun hg hgo => ?_) fun hg hgo => ?_ | refine ek_ret ?_ | refine ek_norm ?_ | refine ⟨by omega, ?_⟩ | rfl | trivial | intro _
theorem v_HomesOk_spec (f : FnD) (h : List Int) (hok : f.ok) (hh : h.length < 1073741824) : C2 CC F_spec_HomesOk [.fv (fnF f), .fv (intR h)] (bv (plainB f && homesB h (clashF f) f.values.toNat)) [] := by
 have h0 := v_PlainOk_spec f hok
 cases hp : plainB f with
 | false =>
  rw [hp] at h0
  refine cw (keepF Tryz.f15) Tryz.f15 false ?_
  repeat' first | refine ck_intro (by first | exact h0) ?_ ?_ | refine g0 ?_ | refine d0 ?_ | refine j0 (fun hg hgo => ?_) fun hg hgo => ?_ | refine ek_ret ?_ | refine ek_norm ?_ | refine ⟨by omega, ?_⟩ | rfl | trivial | intro _
 | true =>
  rw [hp] at h0
  obtain ⟨V, hdom⟩ := plain_dom hp
  have h1 := v_l13Homes f h V hdom hh
  rw [show f.values.toNat = V by rw [hdom.val]; rfl]
  refine cw (keepF Tryz.f15) Tryz.f15 false ?_
  repeat' first | refine ck_intro (by first | exact h0 | exact h1) ?_ ?_ | refine g0 ?_ | refine d0 ?_ | refine j0 (fun hg hgo => ?_) fun hg hgo => ?_ | refine ek_ret ?_ | refine ek_norm ?_ | refine ⟨by omega, ?_⟩ | rfl | trivial | intro _
def rowI (h : List Int) (cl : List (List Bool)) (a : Nat) : Bool := (lstI 0 ((cl[a]?).getD [])).all fun b => !decide (hAt h a = hAt h b.toNat)
theorem rows_homes {h : List Int} {cl : List (List Bool)} {V : Nat} (hok : InsOk V V cl) (hs : SymB cl) (hl : h.length = V) (hh : h.any (fun n => !homeB n) = false) : homesB h cl V = (List.range V).all (rowI h cl) := by
 have hhome : ∀ v, v < V → homeB (hAt h v) = true := fun v hv => by
  rw [hAt_lt (by omega)]
  have := List.any_eq_false.1 hh h[v] (List.getElem_mem (by omega))
  simpa using this
 unfold homesB
 rw [decide_eq_true hl, Bool.true_and, hl, Bool.eq_iff_iff, List.all_eq_true, List.all_eq_true]
 have hcl := hok.len
 have row : ∀ v, v < V → ∃ hv : v < cl.length, (cl[v]?).getD [] = cl[v] ∧ cl[v].length = V := fun v hv => by
  have hvl : v < cl.length := by omega
  exact ⟨hvl, by rw [List.getElem?_eq_getElem hvl]; rfl, hok.row _ (List.getElem_mem hvl)⟩
 constructor
 ·intro hA v hv
  rw [List.mem_range] at hv
  unfold rowI
  rw [List.all_eq_true]
  intro b hb
  obtain ⟨i, rfl, hi⟩ := (mem_lstI _ 0 b).1 hb
  rw [Nat.zero_add, Int.toNat_natCast]
  have hclv : clAt cl v i = true := by unfold clAt; rw [hi]; rfl
  obtain ⟨hvl, hr1, hr2⟩ := row v hv
  rw [hr1] at hi
  have hiV : i < V := by obtain ⟨hx, _⟩ := List.getElem?_eq_some_iff.1 hi; omega
  have hne : i ≠ v := fun e => by subst e; rw [hs.irr] at hclv; cases hclv
  have hq : ∀ a c, a < V → c < a → clAt cl a c = true → ¬ hAt h a = hAt h c := fun a c ha hc hac heq => by
   have := hA a (List.mem_range.2 ha)
   unfold okH at this
   rw [Bool.and_eq_true, List.all_eq_true] at this
   have h2 := this.2 c (List.mem_range.2 hc)
   unfold badH at h2
   rw [hac, decide_eq_true heq] at h2
   cases h2
  rw [Bool.not_eq_true', decide_eq_false_iff_not]
  rcases Nat.lt_or_ge i v with hlt | hge
  ·exact hq v i hv hlt hclv
  ·exact fun e => hq i v hiV (by omega) (by rw [hs.sym]; exact hclv) e.symm
 ·intro hA v hv
  rw [List.mem_range] at hv
  unfold okH
  rw [hhome v hv, Bool.true_and, List.all_eq_true]
  intro w hw
  rw [List.mem_range] at hw
  rw [Bool.not_eq_true']
  unfold badH
  cases hc : clAt cl v w with
  | false => rw [Bool.and_false]
  | true =>
   have h1 := hA v (List.mem_range.2 hv)
   unfold rowI at h1
   rw [List.all_eq_true] at h1
   obtain ⟨hvl, hr1, hr2⟩ := row v hv
   have h2 := h1 (w : Int) ((mem_lstI _ 0 _).2 ⟨w, by simp, by
    unfold clAt at hc
    rw [hr1] at hc ⊢
    have hwl : w < cl[v].length := by omega
    rw [List.getElem?_eq_getElem hwl] at hc ⊢
    simpa using hc⟩)
   rw [Int.toNat_natCast] at h2
   rw [Bool.and_true]
   simpa using h2
theorem v_HomesOk (f : FnD) (h : List Int) (hok : f.ok) (hh : h.length < 1073741824) : C2 CC F_impl_HomesOk [.fv (fnF f), .fv (intR h)] (bv (plainB f && homesB h (clashF f) f.values.toNat)) [] := by
 have h0 := v_PlainOk f hok
 cases hp : plainB f with
 | false =>
  rw [hp] at h0
  refine cw (keepF Tryz.f20) Tryz.f20 false ?_
  repeat' first | refine ck_intro (by first | exact h0) ?_ ?_ | refine pd3 38 [0, 0, 3, 7, 0, 0, 48, 112, 255] [0, 0, 0, 1, 0, 0, 0, 1, 0] false ?_ | refine g0 ?_ | refine d0 ?_ | refine j0 (fun hg hgo => ?_) fun hg hgo => ?_ | refine ek_ret ?_ | refine ek_norm ?_ | refine ⟨by omega, ?_⟩ | rfl | trivial | intro _
 | true =>
  rw [hp] at h0
  obtain ⟨V, hdom⟩ := plain_dom hp
  have h1 := i_Clashes f V hok hp hdom
  rw [show f.values.toNat = V by rw [hdom.val]; rfl, Bool.true_and]
  have hco := clashF_ok hdom
  have hcs := clashF_sym hdom
  have hval := hdom.val
  have hsm := hdom.small
  generalize clashF f = cl at h1 hco hcs
  have hcl := hco.len
  obtain ⟨blocks, values⟩ := f
  simp only at hval
  subst hval
  by_cases hlv : h.length = V
  ·have hlz : ((h.length : Int) != (V : Int)) = false := by rw [bne_eq_false_iff_eq]; omega
   have hcf := v_ContainsFunc_int 34 [] (fun n => !homeB n) (fun i => by simp only [go_sem]) (by decide) h (by omega) (fun x _ => v_HomesOk_1 x)
   cases han : h.any (fun n => !homeB n) with
   | true =>
    have hno : homesB h cl V = false := by
     obtain ⟨x, hx, hx2⟩ := List.any_eq_true.1 han
     obtain ⟨i, hi, rfl⟩ := List.mem_iff_getElem.1 hx
     unfold homesB
     rw [all_no hi (by unfold okH; rw [hAt_lt hi]; simp at hx2; rw [hx2]; rfl), Bool.and_false]
    rw [hno]
    rw [han] at hcf
    refine cw (keepF Tryz.f20) Tryz.f20 false ?_
    repeat' first | refine ck_intro (by first | exact h0 | exact hcf) ?_ ?_ | refine pd3 38 [0, 0, 3, 7, 0, 0, 48, 112, 255] [0, 0, 0, 1, 0, 0, 0, 1, 0] false ?_ | refine g1 @hlz ?_ | refine d1 @hlz ?_ | refine j1 @hlz (fun hg hgo => ?_) fun hg hgo => ?_ | refine ek_ret ?_ | refine ek_norm ?_ | refine ⟨by omega, ?_⟩ | rfl | trivial | intro _
   | false =>
    rw [rows_homes hco hcs hlv han]
    rw [han] at hcf
    refine cw (keepF Tryz.f20) Tryz.f20 false ?_
    repeat' first | refine ck_intro (by first | exact h0 | exact hcf | exact h1) ?_ ?_ | refine pd3 38 [0, 0, 3, 7, 0, 0, 48, 112, 255] [0, 0, 0, 1, 0, 0, 0, 1, 0] false ?_ | refine g1 @hlz ?_ | refine d1 @hlz ?_ | refine j1 @hlz (fun hg hgo => ?_) fun hg hgo => ?_ | refine ek_ret ?_ | refine ek_norm ?_ | refine ⟨by omega, ?_⟩ | rfl | trivial | intro _
    refine pw_loop (fun m st => ∃ j : Nat, j + m = V ∧ (∀ i, i < j → rowI h cl i = true) ∧ st = [(1, .fv (intR h)), (24, .own 1 (insO cl)), (25, iv V), (26, iv j)]) V [(1, .fv (intR h)), (24, .own 1 (insO cl)), (25, iv V), (26, iv (0 : Nat))] (sub_of ?_) ⟨0, by omega, fun i hi => by omega, rfl⟩ ?_
    ·repeat' first | refine g1 @hcl ?_ | refine d1 @hcl ?_ | refine j1 @hcl (fun hg hgo => ?_) fun hg hgo => ?_ | refine ek_ret ?_ | refine ek_norm ?_ | refine ⟨by omega, ?_⟩ | rfl | trivial | intro _
    ·rintro m st ⟨j, hj, hb, rfl⟩
     by_cases hlt : j < V
     ·have hd : decide ((j : Int) < (V : Int)) = true := by rw [decide_eq_true_eq]; omega
      have hjc : j < cl.length := by omega
      have hgi := insO_get hjc
      have hrow := hco.row _ (List.getElem_mem hjc)
      have hli := v_listed cl[j] (by omega)
      have hr1 : (cl[j]?).getD [] = cl[j] := by rw [List.getElem?_eq_getElem hjc]; rfl
      have hrI : rowI h cl j = (lstI 0 cl[j]).all fun b => !decide (hAt h j = hAt h b.toNat) := by unfold rowI; rw [hr1]
      have hin : ∀ b ∈ lstI 0 cl[j], 0 ≤ b ∧ b < V := fun b hb => by
       obtain ⟨i, rfl, hi⟩ := (mem_lstI _ 0 b).1 hb
       obtain ⟨hx, _⟩ := List.getElem?_eq_some_iff.1 hi
       omega
      have hlen := lstI_len 0 cl[j]
      have hdl := deg_le cl[j]
      generalize lstI 0 cl[j] = r at hli hrI hin hlen
      have hrl : r.length ≤ 80 := by omega
      replace hb : True → _ := fun _ => hb
      have hjh : j < h.length := by omega
      have hmj : j < (h.map (FV.int .i64)).length := by rw [List.length_map]; omega
      have haj := hAt_lt hjh
      repeat' first | refine ck_intro (by first | exact hli) ?_ ?_ | refine g3 @hd @hgi @hcl ?_ | refine d3 @hd @hgi @hcl ?_ | refine j3 @hd @hgi @hcl (fun hg hgo => ?_) fun hg hgo => ?_ | refine ek_ret ?_ | refine ek_norm ?_ | refine ⟨by omega, ?_⟩ | rfl | trivial | intro _
      refine pw_loop (fun m st => ∃ k : Nat, k + m = r.length ∧ (∀ i (hi : i < r.length), i < k → ¬ hAt h j = hAt h r[i].toNat) ∧ st = [(1, .fv (intR h)), (24, .own 1 (insO cl)), (25, iv V), (26, iv j), (5, iv j), (32, .own 1 (ints r)), (33, iv r.length), (34, iv k)]) r.length [(1, .fv (intR h)), (24, .own 1 (insO cl)), (25, iv V), (26, iv j), (5, iv j), (32, .own 1 (ints r)), (33, iv r.length), (34, iv (0 : Nat))] (sub_of ?_) ⟨0, by omega, fun i _ hi => by omega, rfl⟩ ?_
      ·exact dn
      ·rintro m2 st ⟨k, hk, hb2, rfl⟩
       by_cases hlk : k < r.length
       ·have hdk : decide ((k : Int) < (r.length : Int)) = true := by rw [decide_eq_true_eq]; omega
        have hgk := ints_at hlk
        obtain ⟨hk0, hkV⟩ := hin r[k] (List.getElem_mem hlk)
        have hkh : r[k].toNat < h.length := by omega
        have hmk : r[k].toNat < (h.map (FV.int .i64)).length := by rw [List.length_map]; omega
        have hak := hAt_lt hkh
        replace hb2 : True → _ := fun _ => hb2
        have hbig : 0 ≤ r[k] := hk0
        repeat' first | refine pd3 38 [0, 0, 3, 7, 0, 0, 48, 112, 255] [0, 0, 0, 1, 0, 0, 0, 1, 0] false ?_ | refine g2 @hdk @hgk ?_ | refine d2 @hdk @hgk ?_ | refine j2 @hdk @hgk (fun hg hgo => ?_) fun hg hgo => ?_ | refine ek_ret ?_ | refine ek_norm ?_ | refine ⟨by omega, ?_⟩ | rfl | trivial | intro _
        ·have hno : rowI h cl j = false := by
          rw [hrI, List.all_eq_false]
          refine ⟨r[k], List.getElem_mem hlk, ?_⟩
          rw [haj, hak]; simpa using hg
         rw [all_no hlt hno]
        ·refine rd_norm [(1, .fv (intR h)), (24, .own 1 (insO cl)), (25, iv V), (26, iv j), (5, iv j), (32, .own 1 (ints r)), (33, iv r.length), (34, iv (k + 1 : Nat))] (sub_of ?_) (m2 - 1) (by omega) ⟨k + 1, by omega, fun i hi h1 => ?_, rfl⟩
         ·exact dn
         ·by_cases hik : i = k
          ·subst hik; rw [haj, hak]; simpa using hg
          ·exact hb2 trivial i hi (by omega)
       ·have hdk : decide ((k : Int) < (r.length : Int)) = false := by rw [decide_eq_false_iff_not]; omega
        have hyes : rowI h cl j = true := by
         rw [hrI, List.all_eq_true]
         intro b hb
         obtain ⟨i, hi, rfl⟩ := List.mem_iff_getElem.1 hb
         simpa using hb2 i hi (by omega)
        repeat' first | refine g1 @hdk ?_ | refine d1 @hdk ?_ | refine j1 @hdk (fun hg hgo => ?_) fun hg hgo => ?_ | refine ek_ret ?_ | refine ek_norm ?_ | refine ⟨by omega, ?_⟩ | rfl | trivial | intro _
        refine rd_norm [(1, .fv (intR h)), (24, .own 1 (insO cl)), (25, iv V), (26, iv (j + 1 : Nat))] (sub_of ?_) (m - 1) (by omega) ⟨j + 1, by omega, fun i hi => ?_, rfl⟩
        ·exact dn
        ·by_cases hij : i = j
         ·subst hij; exact hyes
         ·exact hb trivial i (by omega)
     ·have hd : decide ((j : Int) < (V : Int)) = false := by rw [decide_eq_false_iff_not]; omega
      rw [all_yes fun i hi => hb i (by omega)]
      repeat' first | refine g1 @hd ?_ | refine d1 @hd ?_ | refine j1 @hd (fun hg hgo => ?_) fun hg hgo => ?_ | refine ek_ret ?_ | refine ek_norm ?_ | refine ⟨by omega, ?_⟩ | rfl | trivial | intro _
  ·have hlz : ((h.length : Int) != (V : Int)) = true := by rw [bne_iff_ne]; omega
   have hno : homesB h cl V = false := by unfold homesB; rw [decide_eq_false hlv]; rfl
   rw [hno]
   refine cw (keepF Tryz.f20) Tryz.f20 false ?_
   repeat' first | refine ck_intro (by first | exact h0) ?_ ?_ | refine pd3 38 [0, 0, 3, 7, 0, 0, 48, 112, 255] [0, 0, 0, 1, 0, 0, 0, 1, 0] false ?_ | refine g1 @hlz ?_ | refine d1 @hlz ?_ | refine j1 @hlz (fun hg hgo => ?_) fun hg hgo => ?_ | refine ek_ret ?_ | refine ek_norm ?_ | refine ⟨by omega, ?_⟩ | rfl | trivial | intro _
def hm (h : List Int) (v : Int) : Int := (h[v.toNat]?).getD 0
def renI (h : List Int) (x : StepD) : StepD := ⟨x.op, if makesB x.op = true then hm h x.r else x.r, if hasA x.op = true then hm h x.a else x.a, if hasBb x.op = true then hm h x.b else x.b, x.n⟩
def keptB (x : StepD) : Bool := x.op != 25 || x.r != x.a
def renL (h : List Int) (l : List StepD) : List StepD := (l.map (renI h)).filter keptB
def renT (h : List Int) (t : TermD) : TermD := ⟨t.kind, if trmUses t = [] then t.a else hm h t.a, t.to, t.els⟩
def renB (h : List Int) (b : BlockD) : BlockD := ⟨[], renL h b.list, renT h b.term⟩
def renF (h : List Int) (f : FnD) : FnD := ⟨f.blocks.map (renB h), 40⟩
theorem hm_at {h : List Int} {n : Nat} (hn : n < h.length) : hm h (n : Int) = h[n] := by unfold hm; rw [Int.toNat_natCast, List.getElem?_eq_getElem hn]; rfl
theorem renL_snoc {h : List Int} {l : List StepD} {k : Nat} (hk : k < l.length) : renL h (l.take (k + 1)) = renL h (l.take k) ++ (if keptB (renI h l[k]) = true then [renI h l[k]] else []) := by
 unfold renL
 rw [List.take_succ_eq_append_getElem hk, List.map_append, List.filter_append]
 congr 1
 rw [List.map_cons, List.map_nil, List.filter_cons]
 split <;> rfl
theorem renL_len {h : List Int} {l : List StepD} : (renL h l).length ≤ l.length := by
 unfold renL
 exact Nat.le_trans (List.length_filter_le _ _) (by rw [List.length_map]; exact Nat.le_refl _)
structure InR (h : List Int) (x : StepD) : Prop where
 r : makesB x.op = true → ∃ n : Nat, x.r = n ∧ n < h.length
 a : hasA x.op = true → ∃ n : Nat, x.a = n ∧ n < h.length
 b : hasBb x.op = true → ∃ n : Nat, x.b = n ∧ n < h.length
structure Rn (f : FnD) (h : List Int) : Prop where
 len : h.length ≤ 80
 ne : f.blocks ≠ []
 cnt : f.blocks.length ≤ 16
 list : ∀ i (hi : i < f.blocks.length), f.blocks[i].list.length ≤ 24
 ins : ∀ i (hi : i < f.blocks.length), ∀ x ∈ f.blocks[i].list, InR h x
 trm : ∀ i (hi : i < f.blocks.length), trmUses f.blocks[i].term ≠ [] → ∃ n : Nat, f.blocks[i].term.a = n ∧ n < h.length
theorem val_nat {v n : Int} {L : Nat} (hL : (L : Int) = n) (h : valB v n = true) : ∃ k : Nat, v = k ∧ k < L := by
 unfold valB at h
 simp only [Bool.and_eq_true, decide_eq_true_eq] at h
 exact ⟨v.toNat, by omega, by omega⟩
theorem rn_of {f : FnD} {h : List Int} (hp : plainB f = true) (hh : homesB h (clashF f) f.values.toNat = true) : Rn f h := by
 have hs : shapeB f = true := by unfold plainB at hp; rw [Bool.and_eq_true] at hp; exact hp.1
 unfold homesB at hh
 rw [Bool.and_eq_true, decide_eq_true_eq] at hh
 unfold shapeB rgB at hs
 simp only [Bool.and_eq_true, decide_eq_true_eq, List.all_eq_true] at hs
 have hL : (h.length : Int) = f.values := by rw [hh.1]; omega
 have hb : ∀ i (hi : i < f.blocks.length), f.blocks[i].list.length ≤ 24 ∧ termB f.blocks[i].term f.blocks.length f.values = true ∧ ∀ x ∈ f.blocks[i].list, insB x f.values = true := by
  intro i hi
  have h1 := hs.2 f.blocks[i] (List.getElem_mem hi)
  unfold blockB at h1
  simp only [Bool.and_eq_true, decide_eq_true_eq, List.all_eq_true] at h1
  exact ⟨h1.1.1.1.2, h1.1.1.2, h1.2⟩
 refine ⟨by omega, fun e => by rw [e] at hs; simp at hs, by omega, fun i hi => (hb i hi).1, fun i hi x hx => ?_, fun i hi ht => ?_⟩
 ·have h2 := (hb i hi).2.2 x hx
  have hv := fun {v : Int} => @val_nat v f.values h.length hL
  unfold insB at h2
  split at h2
  ·simp only [Bool.and_eq_true] at h2
   exact ⟨fun _ => hv h2.1.1.1, fun _ => hv h2.1.1.2, fun _ => hv h2.1.2⟩
  rename_i hw
  split at h2
  ·rename_i e
   simp only [Bool.and_eq_true] at h2
   refine ⟨fun _ => hv h2.1.1, fun hA => ?_, fun hB => ?_⟩
   ·rw [e] at hA; exact absurd hA (by decide)
   ·rw [e] at hB; exact absurd hB (by decide)
  split at h2
  ·rename_i e
   simp only [Bool.and_eq_true] at h2
   refine ⟨fun _ => hv h2.1.1.1, fun _ => hv h2.1.1.2, fun hB => ?_⟩
   rcases e with e | e <;> (rw [e] at hB; exact absurd hB (by decide))
  split at h2
  ·rename_i e
   simp only [Bool.and_eq_true] at h2
   refine ⟨fun hM => ?_, fun _ => hv h2.1.1.1, fun _ => hv h2.1.1.2⟩
   rw [e] at hM; exact absurd hM (by decide)
  split at h2
  ·rename_i e
   simp only [Bool.and_eq_true] at h2
   refine ⟨fun hM => ?_, fun _ => hv h2.1.1.1, fun hB => ?_⟩
   ·rw [e] at hM; exact absurd hM (by decide)
   ·rw [e] at hB; exact absurd hB (by decide)
  split at h2
  ·rename_i e
   simp only [Bool.and_eq_true] at h2
   refine ⟨fun _ => hv h2.1.1.1, fun hA => ?_, fun hB => ?_⟩
   ·rw [e] at hA; exact absurd hA (by decide)
   ·rw [e] at hB; exact absurd hB (by decide)
  ·cases h2
 ·have h2 := (hb i hi).2.1
  have hv := fun {v : Int} => @val_nat v f.values h.length hL
  unfold trmUses at ht
  split at ht
  ·rename_i hk
   unfold termB at h2
   split at h2
   ·omega
   split at h2
   ·simp only [Bool.and_eq_true] at h2; exact hv h2.2
   split at h2
   ·simp only [Bool.and_eq_true] at h2; exact hv h2.1.1
   ·cases h2
  ·exact absurd rfl ht
theorem uses_A (x : StepD) : decide (((usesL x).length : Int) > 0) = hasA x.op := by
 unfold usesL hasA
 cases wok x.op <;> cases (x.op == 22) <;> cases (x.op == 21) <;> cases (x.op == 23) <;> cases (x.op == 25) <;> simp
theorem uses_B (x : StepD) : decide (((usesL x).length : Int) > 1) = hasBb x.op := by
 unfold usesL hasBb
 cases wok x.op <;> cases (x.op == 22) <;> cases (x.op == 21) <;> cases (x.op == 23) <;> cases (x.op == 25) <;> simp
theorem def_M {h : List Int} {x : StepD} (hx : InR h x) : decide (insDefI x ≥ 0) = makesB x.op := by
 unfold insDefI
 cases hm : makesB x.op with
 | true => obtain ⟨n, h1, _⟩ := hx.r hm; rw [if_pos rfl, h1]; rw [decide_eq_true_eq]; omega
 | false => rw [if_neg (by decide)]; decide
theorem B_A {op : Int} (h : hasA op = false) : hasBb op = false := by
 unfold hasA at h; unfold hasBb
 simp only [Bool.or_eq_false_iff] at h ⊢
 exact ⟨h.1.1.1.1, h.1.1.1.2⟩
def natB (b : BlockD) : DV := if b.list = [] then .fv (.agg [.nil, .nil, termF b.term]) else .agg [.fv .nil, .own 5 (steps b.list), .fv (termF b.term)]
@[go_sem] theorem nr_natB {b : BlockD} : noRef (natB b) = true := by
 unfold natB; split
 ·rfl
 ·rw [nr_agg, nrs_cons, nrs_cons, nrs_cons, nr_own, nrs_steps]; rfl
@[go_sem] theorem nrs_natB {l : List BlockD} : noRefs (rowD natB l) = true := nrs_rowD fun _ => nr_natB
structure Hid (T : Prop) : Prop where
 p : T
theorem cutP {T G : Prop} (main : Hid T → G) (p : T) : G := main ⟨p⟩
theorem fvs_aggc {l m : List DV} : fvs (.agg l :: m) = false := nr rfl
theorem le_nil : LeD (.fv .nil) (.fv (.row 2 [])) := .fv (.nil 2)
theorem natB_le {b : BlockD} (hp : b.phis = []) : LeD (natB b) (blockE b) := by
 unfold natB blockE
 rw [hp, rowE_nil]
 by_cases hl : b.list = []
 ·rw [if_pos hl, hl, rowE_nil]
  exact .fagg (.cons le_nil (.cons (.fv (.nil 5)) (.cons (.same _) .nil)))
 ·rw [if_neg hl, rowE_ne hl]
  exact .agg (.cons le_nil (.cons (.same _) (.cons (.same _) .nil)))
theorem natR_le : ∀ {l : List BlockD}, (∀ b ∈ l, b.phis = []) → LeDs (rowD natB l) (rowD blockE l)
 | [], _ => .nil
 | b :: l, h => .cons (natB_le (h b (by simp))) (natR_le fun x hx => h x (by simp [hx]))
theorem renF_phis {h : List Int} {f : FnD} : ∀ b ∈ (renF h f).blocks, b.phis = [] := by
 intro b hb
 unfold renF at hb
 obtain ⟨x, -, rfl⟩ := List.mem_map.1 hb
 rfl
theorem renF_ne {h : List Int} {f : FnD} (hn : f.blocks ≠ []) : (renF h f).blocks ≠ [] := by
 unfold renF; simp only [ne_eq, List.map_eq_nil_iff]; exact hn
theorem renF_ok {h : List Int} {f : FnD} (hr : Rn f h) : (renF h f).ok := by
 refine ⟨by unfold renF; rw [List.length_map]; have := hr.cnt; omega, fun b hb => ?_⟩
 unfold renF at hb
 obtain ⟨x, hx, rfl⟩ := List.mem_map.1 hb
 obtain ⟨i, hi, rfl⟩ := List.mem_iff_getElem.1 hx
 have h1 := hr.list i hi
 have h2 := @renL_len h f.blocks[i].list
 exact ⟨by simp [renB], fun p hp => by simp [renB] at hp, by simp only [renB]; omega⟩
theorem v_Renamed_spec (f : FnD) (h : List Int) (hok : f.ok) (hhl : h.length < 1073741824) (hb0 : (plainB f && homesB h (clashF f) f.values.toNat) = true) : C2 CC F_spec_Renamed [.fv (fnF f), .fv (intR h)] (.tup [.agg [.own 6 (rowD natB (renF h f).blocks), iv 40], bv true]) [] := by
 have hpl : plainB f = true := by rw [Bool.and_eq_true] at hb0; exact hb0.1
 have hR := rn_of hpl (by rw [Bool.and_eq_true] at hb0; exact hb0.2)
 have kh := v_HomesOk_spec f h hok hhl
 rw [hb0] at kh
 have hcnt := hR.cnt
 have hhl80 := hR.len
 refine cw (keepF Tryz.f5) Tryz.f5 false ?_
 repeat' first | refine ck_intro (by first | exact kh) ?_ ?_ | refine g0 ?_ | refine d0 ?_ | refine j0 (fun hg hgo => ?_) fun hg hgo => ?_ | refine ek_ret ?_ | refine ek_norm ?_ | refine ⟨by omega, ?_⟩ | rfl | trivial | intro _
 refine pw_loop (fun m st => ∃ j : Nat, j + m = f.blocks.length ∧ ((j = 0 ∧ st = [(4, .box (.fv (.agg [.nil, .int .i64 0]))), (2, .box (.fv (fnF f))), (1, .fv (intR h)), (7, iv (0 : Nat)), (6, .box (.fv (.agg [.nil, .int .i64 40])))]) ∨ (0 < j ∧ st = [(4, .box (.fv (.agg [.nil, .int .i64 0]))), (2, .box (.fv (fnF f))), (1, .fv (intR h)), (7, iv j), (6, .box (.agg [.own 6 (rowD natB ((f.blocks.take j).map (renB h))), iv 40]))]))) f.blocks.length [(4, .box (.fv (.agg [.nil, .int .i64 0]))), (2, .box (.fv (fnF f))), (1, .fv (intR h)), (7, iv (0 : Nat)), (6, .box (.fv (.agg [.nil, .int .i64 40])))] (sub_of ?_) ⟨0, by omega, .inl ⟨rfl, rfl⟩⟩ ?_
 ·exact dn
 ·rintro m st ⟨j, hj, hst⟩
  by_cases hlt : j < f.blocks.length
  ·have hd : decide ((j : Int) < (f.blocks.length : Int)) = true := by rw [decide_eq_true_eq]; omega
   have hml : j < (f.blocks.map blockF).length := by rw [List.length_map]; exact hlt
   have hlist := hR.list j hlt
   have hins := hR.ins j hlt
   have htr := hR.trm j hlt
   have hnx : (f.blocks.take (j + 1)).map (renB h) = (f.blocks.take j).map (renB h) ++ [renB h f.blocks[j]] := by
    rw [List.take_succ_eq_append_getElem hlt, List.map_append]; rfl
   have htl : ((f.blocks.take j).map (renB h)).length ≤ 16 := by rw [List.length_map, List.length_take]; omega
   have htk : (f.blocks.take j).length ≤ 16 := by rw [List.length_take]; omega
   have hst2 : ∃ ob : DV, st = [(4, .box (.fv (.agg [.nil, .int .i64 0]))), (2, .box (.fv (fnF f))), (1, .fv (intR h)), (7, iv j), (6, ob)] ∧ ((j = 0 ∧ ob = .box (.fv (.agg [.nil, .int .i64 40]))) ∨ (0 < j ∧ ob = .box (.agg [.own 6 (rowD natB ((f.blocks.take j).map (renB h))), iv 40]))) := by
    rcases hst with ⟨rfl, rfl⟩ | ⟨h0, rfl⟩
    ·exact ⟨_, rfl, .inl ⟨rfl, rfl⟩⟩
    ·exact ⟨_, rfl, .inr ⟨h0, rfl⟩⟩
   clear hst
   obtain ⟨ob, rfl, hob⟩ := hst2
   have hobn : noRef ob = true := by
    rcases hob with ⟨_, rfl⟩ | ⟨_, rfl⟩
    ·rfl
    ·rw [nr_box, nr_agg, nrs_cons, nr_own, nrs_natB]; rfl
   have hobk : ∀ a, kl a ob = ob := fun a => kl_noRef a hobn
   generalize hbb : f.blocks[j] = bb at hlist hins htr hnx
   obtain ⟨bp, bl, tk, ta, tto, te⟩ := bb
   simp only at hlist hins htr
   have rt1 : (renT h (⟨tk, ta, tto, te⟩ : TermD)).kind = tk := rfl
   have rt3 : (renT h (⟨tk, ta, tto, te⟩ : TermD)).to = tto := rfl
   have rt4 : (renT h (⟨tk, ta, tto, te⟩ : TermD)).els = te := rfl
   have hRA : ∃ ra, (renT h (⟨tk, ta, tto, te⟩ : TermD)).a = ra ∧ (trmUses (⟨tk, ta, tto, te⟩ : TermD) = [] ∧ ra = ta ∨ trmUses (⟨tk, ta, tto, te⟩ : TermD) ≠ [] ∧ ∃ (tN : Nat) (ht : tN < h.length), ta = (tN : Int) ∧ ra = h[tN]) := by
    by_cases htu : trmUses (⟨tk, ta, tto, te⟩ : TermD) = []
    ·exact ⟨_, rfl, .inl ⟨htu, by unfold renT; rw [if_pos htu]⟩⟩
    ·obtain ⟨tN, ht1, ht2⟩ := htr htu
     exact ⟨_, rfl, .inr ⟨htu, tN, ht2, ht1, by unfold renT; rw [if_neg htu]; show hm h ta = _; rw [ht1, hm_at ht2]⟩⟩
   obtain ⟨ra, rt2, hra⟩ := hRA
   apply cutP
   ·intro key
    rcases hra with ⟨htu, hra⟩ | ⟨htu, tN, ht2, hta, hra⟩
    ·have kt := v_TermUses_spec (⟨tk, ta, tto, te⟩ : TermD)
     rw [htu] at kt
     repeat' first | refine ck_intro (by first | exact kt) ?_ ?_ | refine g4 @hd @hobn @hobk @hbb ?_ | refine d4 @hd @hobn @hobk @hbb ?_ | refine j4 @hd @hobn @hobk @hbb (fun hg hgo => ?_) fun hg hgo => ?_ | refine ek_ret ?_ | refine ek_norm ?_ | refine ⟨by omega, ?_⟩ | rfl | trivial | intro _
     refine pw_loop (fun m st => ∃ k : Nat, k + m = bl.length ∧ ((renL h (bl.take k) = [] ∧ st = [(4, .box (.fv (.agg [.nil, .int .i64 0]))), (2, .box (.fv (fnF f))), (1, .fv (intR h)), (7, iv j), (6, ob), (9, iv k), (8, .box (.fv (.agg [.nil, .nil, .agg [.int .i64 tk, .int .i64 ra, .int .i64 tto, .int .i64 te]])))]) ∨ (renL h (bl.take k) ≠ [] ∧ st = [(4, .box (.fv (.agg [.nil, .int .i64 0]))), (2, .box (.fv (fnF f))), (1, .fv (intR h)), (7, iv j), (6, ob), (9, iv k), (8, .box (.agg [.fv .nil, .own 5 (steps (renL h (bl.take k))), .fv (.agg [.int .i64 tk, .int .i64 ra, .int .i64 tto, .int .i64 te])]))]))) bl.length [(4, .box (.fv (.agg [.nil, .int .i64 0]))), (2, .box (.fv (fnF f))), (1, .fv (intR h)), (7, iv j), (6, ob), (9, iv (0 : Nat)), (8, .box (.fv (.agg [.nil, .nil, .agg [.int .i64 tk, .int .i64 ra, .int .i64 tto, .int .i64 te]])))] (sub_of ?_) ⟨0, by omega, .inl ⟨rfl, rfl⟩⟩ key.p
     repeat' first | refine g3 @hobn @hobk @hra ?_ | refine d3 @hobn @hobk @hra ?_ | refine j3 @hobn @hobk @hra (fun hg hgo => ?_) fun hg hgo => ?_ | refine ek_ret ?_ | refine ek_norm ?_ | refine ⟨by omega, ?_⟩ | rfl | trivial | intro _
    ·have kt := v_TermUses_spec (⟨tk, ta, tto, te⟩ : TermD)
     have htm : tN < (h.map (FV.int .i64)).length := by rw [List.length_map]; exact ht2
     have hpos : decide (((trmUses (⟨tk, ta, tto, te⟩ : TermD)).length : Int) > 0) = true := by
      rw [decide_eq_true_eq]; have := List.length_pos_iff.2 htu; omega
     have htl2 : (trmUses (⟨tk, ta, tto, te⟩ : TermD)).length ≤ 1 := by unfold trmUses; split <;> simp
     rw [hta] at kt hpos htl2
     repeat' first | refine ck_intro (by first | exact kt) ?_ ?_ | refine g6 @hd @hobn @hobk @hbb @hta @hpos ?_ | refine d6 @hd @hobn @hobk @hbb @hta @hpos ?_ | refine j6 @hd @hobn @hobk @hbb @hta @hpos (fun hg hgo => ?_) fun hg hgo => ?_ | refine ek_ret ?_ | refine ek_norm ?_ | refine ⟨by omega, ?_⟩ | rfl | trivial | intro _
     refine pw_loop (fun m st => ∃ k : Nat, k + m = bl.length ∧ ((renL h (bl.take k) = [] ∧ st = [(4, .box (.fv (.agg [.nil, .int .i64 0]))), (2, .box (.fv (fnF f))), (1, .fv (intR h)), (7, iv j), (6, ob), (9, iv k), (8, .box (.fv (.agg [.nil, .nil, .agg [.int .i64 tk, .int .i64 ra, .int .i64 tto, .int .i64 te]])))]) ∨ (renL h (bl.take k) ≠ [] ∧ st = [(4, .box (.fv (.agg [.nil, .int .i64 0]))), (2, .box (.fv (fnF f))), (1, .fv (intR h)), (7, iv j), (6, ob), (9, iv k), (8, .box (.agg [.fv .nil, .own 5 (steps (renL h (bl.take k))), .fv (.agg [.int .i64 tk, .int .i64 ra, .int .i64 tto, .int .i64 te])]))]))) bl.length [(4, .box (.fv (.agg [.nil, .int .i64 0]))), (2, .box (.fv (fnF f))), (1, .fv (intR h)), (7, iv j), (6, ob), (9, iv (0 : Nat)), (8, .box (.fv (.agg [.nil, .nil, .agg [.int .i64 tk, .int .i64 ra, .int .i64 tto, .int .i64 te]])))] (sub_of ?_) ⟨0, by omega, .inl ⟨rfl, rfl⟩⟩ key.p
     repeat' first | refine g3 @hobn @hobk @hra ?_ | refine d3 @hobn @hobk @hra ?_ | refine j3 @hobn @hobk @hra (fun hg hgo => ?_) fun hg hgo => ?_ | refine ek_ret ?_ | refine ek_norm ?_ | refine ⟨by omega, ?_⟩ | rfl | trivial | intro _
   clear hra
   rintro m1 st ⟨k, hk, hst⟩
   by_cases hlk : k < bl.length
   ·have hdk : decide ((k : Int) < (bl.length : Int)) = true := by rw [decide_eq_true_eq]; omega
    have hmk : k < (bl.map stF).length := by rw [List.length_map]; exact hlk
    have hsn := renL_snoc (h := h) hlk
    have hix := hins bl[k] (List.getElem_mem hlk)
    have hrl := @renL_len h (bl.take k)
    rw [List.length_take] at hrl
    have kd := v_InsDef_spec bl[k]
    have ku := v_InsUses bl[k]
    have hdm := def_M hix
    have hua := uses_A bl[k]
    have hub := uses_B bl[k]
    have hul : (usesL bl[k]).length ≤ 2 := by
     unfold usesL; split
     ·simp
     ·split <;> simp
    generalize hx : bl[k] = x at *
    generalize usesL x = us at *
    generalize insDefI x = df at *
    obtain ⟨op, r, a, b, n⟩ := x
    simp only at hix hdm hua hub
    cases hM : makesB op with
    | true =>
     rw [hM] at hdm
     obtain ⟨rN, hr1, hr2⟩ := hix.r hM
     simp only at hr1
     subst hr1
     have hrm : rN < (h.map (FV.int .i64)).length := by rw [List.length_map]; exact hr2
     cases hA : hasA op with
     | true =>
      rw [hA] at hua
      obtain ⟨aN, ha1, ha2⟩ := hix.a hA
      simp only at ha1
      subst ha1
      have ham : aN < (h.map (FV.int .i64)).length := by rw [List.length_map]; exact ha2
      cases hB : hasBb op with
      | true =>
       rw [hB] at hub
       obtain ⟨bN, hb1, hb2⟩ := hix.b hB
       simp only at hb1
       subst hb1
       have hbm : bN < (h.map (FV.int .i64)).length := by rw [List.length_map]; exact hb2
       as_aux_lemma =>
        have hy : renI h ⟨op, (rN : Int), (aN : Int), (bN : Int), n⟩ = (⟨op, h[rN], h[aN], h[bN], n⟩ : StepD) := by
         unfold renI; simp only [hM, hA, hB, if_true, Bool.false_eq_true, if_false]
         rw [hm_at hr2, hm_at ha2, hm_at hb2]
        cases hkp : keptB (⟨op, h[rN], h[aN], h[bN], n⟩ : StepD) with
        | false =>
         have hk0 : op = 25 ∧ h[rN] = h[aN] := by simpa [keptB] using hkp
         have e1 : (op != 25) = false := by simp [hk0.1]
         have e2 : (h[rN] != h[aN]) = false := by simp [hk0.2]
         rw [← hy] at hkp
         rw [if_neg (by rw [hkp]; decide), List.append_nil] at hsn
         rcases hst with ⟨hl0, rfl⟩ | ⟨hl0, rfl⟩
         ·repeat' first | refine ck_intro (by first | exact kd | exact ku) ?_ ?_ | refine g10 @hdk @hobn @hobk @hdm @hua @hub @hbb @hx @e1 @e2 ?_ | refine d10 @hdk @hobn @hobk @hdm @hua @hub @hbb @hx @e1 @e2 ?_ | refine j10 @hdk @hobn @hobk @hdm @hua @hub @hbb @hx @e1 @e2 (fun hg hgo => ?_) fun hg hgo => ?_ | refine ek_ret ?_ | refine ek_norm ?_ | refine ⟨by omega, ?_⟩ | rfl | trivial | intro _
          refine rd_norm _ (sub_of ?_) (m1 - 1) (by omega) ⟨k + 1, by omega, .inl ⟨by rw [hsn]; exact hl0, rfl⟩⟩
          repeat' first | refine g2 @hobn @hobk ?_ | refine d2 @hobn @hobk ?_ | refine j2 @hobn @hobk (fun hg hgo => ?_) fun hg hgo => ?_ | refine ek_ret ?_ | refine ek_norm ?_ | refine ⟨by omega, ?_⟩ | rfl | trivial | intro _
         ·repeat' first | refine ck_intro (by first | exact kd | exact ku) ?_ ?_ | refine g10 @hdk @hobn @hobk @hdm @hua @hub @hbb @hx @e1 @e2 ?_ | refine d10 @hdk @hobn @hobk @hdm @hua @hub @hbb @hx @e1 @e2 ?_ | refine j10 @hdk @hobn @hobk @hdm @hua @hub @hbb @hx @e1 @e2 (fun hg hgo => ?_) fun hg hgo => ?_ | refine ek_ret ?_ | refine ek_norm ?_ | refine ⟨by omega, ?_⟩ | rfl | trivial | intro _
          refine rd_norm [(4, .box (.fv (.agg [.nil, .int .i64 0]))), (2, .box (.fv (fnF f))), (1, .fv (intR h)), (7, iv j), (6, ob), (9, iv (k + 1 : Nat)), (8, .box (.agg [.fv .nil, .own 5 (steps (renL h (bl.take k))), .fv (.agg [.int .i64 tk, .int .i64 ra, .int .i64 tto, .int .i64 te])]))] (sub_of ?_) (m1 - 1) (by omega) ⟨k + 1, by omega, .inr ⟨by rw [hsn]; exact hl0, by rw [hsn]⟩⟩
          repeat' first | refine g2 @hobn @hobk ?_ | refine d2 @hobn @hobk ?_ | refine j2 @hobn @hobk (fun hg hgo => ?_) fun hg hgo => ?_ | refine ek_ret ?_ | refine ek_norm ?_ | refine ⟨by omega, ?_⟩ | rfl | trivial | intro _
        | true =>
         rw [← hy] at hkp
         by_cases h25 : op = 25
         ·have e1 : (op != 25) = false := by simp [h25]
          have e2 : (h[rN] != h[aN]) = true := by rw [hy] at hkp; simpa [keptB, h25] using hkp
          rw [if_pos hkp] at hsn
          rcases hst with ⟨hl0, rfl⟩ | ⟨hl0, rfl⟩
          ·rw [hl0, List.nil_append] at hsn
           have hap : [DV.fv (.agg [.int .i64 op, .int .i64 (h[rN]), .int .i64 (h[aN]), .int .i64 (h[bN]), .int .i64 n])] = steps (renL h (bl.take (k + 1))) := by rw [hsn, hy]; rfl
           repeat' first | refine ck_intro (by first | exact kd | exact ku) ?_ ?_ | refine g10 @hdk @hobn @hobk @hdm @hua @hub @hbb @hx @e1 @e2 ?_ | refine d10 @hdk @hobn @hobk @hdm @hua @hub @hbb @hx @e1 @e2 ?_ | refine j10 @hdk @hobn @hobk @hdm @hua @hub @hbb @hx @e1 @e2 (fun hg hgo => ?_) fun hg hgo => ?_ | refine ek_ret ?_ | refine ek_norm ?_ | refine ⟨by omega, ?_⟩ | rfl | trivial | intro _
           refine rd_norm _ (sub_of ?_) (m1 - 1) (by omega) ⟨k + 1, by omega, .inr ⟨by rw [hsn]; simp, rfl⟩⟩
           rw [← hap]
           repeat' first | refine g2 @hobn @hobk ?_ | refine d2 @hobn @hobk ?_ | refine j2 @hobn @hobk (fun hg hgo => ?_) fun hg hgo => ?_ | refine ek_ret ?_ | refine ek_norm ?_ | refine ⟨by omega, ?_⟩ | rfl | trivial | intro _
          ·have hap : steps (renL h (bl.take k)) ++ [DV.fv (.agg [.int .i64 op, .int .i64 (h[rN]), .int .i64 (h[aN]), .int .i64 (h[bN]), .int .i64 n])] = steps (renL h (bl.take (k + 1))) := by rw [hsn, hy]; unfold steps; simp
           repeat' first | refine ck_intro (by first | exact kd | exact ku) ?_ ?_ | refine g11 @hdk @hobn @hobk @hdm @hua @hub @hbb @hx @e1 @e2 @hap ?_ | refine d11 @hdk @hobn @hobk @hdm @hua @hub @hbb @hx @e1 @e2 @hap ?_ | refine j11 @hdk @hobn @hobk @hdm @hua @hub @hbb @hx @e1 @e2 @hap (fun hg hgo => ?_) fun hg hgo => ?_ | refine ek_ret ?_ | refine ek_norm ?_ | refine ⟨by omega, ?_⟩ | rfl | trivial | intro _
           refine rd_norm _ (sub_of ?_) (m1 - 1) (by omega) ⟨k + 1, by omega, .inr ⟨by rw [hsn]; simp, rfl⟩⟩
           skip
           repeat' first | refine g2 @hobn @hobk ?_ | refine d2 @hobn @hobk ?_ | refine j2 @hobn @hobk (fun hg hgo => ?_) fun hg hgo => ?_ | refine ek_ret ?_ | refine ek_norm ?_ | refine ⟨by omega, ?_⟩ | rfl | trivial | intro _
         ·have e1 : (op != 25) = true := by simpa using h25
          rw [if_pos hkp] at hsn
          rcases hst with ⟨hl0, rfl⟩ | ⟨hl0, rfl⟩
          ·rw [hl0, List.nil_append] at hsn
           have hap : [DV.fv (.agg [.int .i64 op, .int .i64 (h[rN]), .int .i64 (h[aN]), .int .i64 (h[bN]), .int .i64 n])] = steps (renL h (bl.take (k + 1))) := by rw [hsn, hy]; rfl
           repeat' first | refine ck_intro (by first | exact kd | exact ku) ?_ ?_ | refine g9 @hdk @hobn @hobk @hdm @hua @hub @hbb @hx @e1 ?_ | refine d9 @hdk @hobn @hobk @hdm @hua @hub @hbb @hx @e1 ?_ | refine j9 @hdk @hobn @hobk @hdm @hua @hub @hbb @hx @e1 (fun hg hgo => ?_) fun hg hgo => ?_ | refine ek_ret ?_ | refine ek_norm ?_ | refine ⟨by omega, ?_⟩ | rfl | trivial | intro _
           refine rd_norm _ (sub_of ?_) (m1 - 1) (by omega) ⟨k + 1, by omega, .inr ⟨by rw [hsn]; simp, rfl⟩⟩
           rw [← hap]
           repeat' first | refine g2 @hobn @hobk ?_ | refine d2 @hobn @hobk ?_ | refine j2 @hobn @hobk (fun hg hgo => ?_) fun hg hgo => ?_ | refine ek_ret ?_ | refine ek_norm ?_ | refine ⟨by omega, ?_⟩ | rfl | trivial | intro _
          ·have hap : steps (renL h (bl.take k)) ++ [DV.fv (.agg [.int .i64 op, .int .i64 (h[rN]), .int .i64 (h[aN]), .int .i64 (h[bN]), .int .i64 n])] = steps (renL h (bl.take (k + 1))) := by rw [hsn, hy]; unfold steps; simp
           repeat' first | refine ck_intro (by first | exact kd | exact ku) ?_ ?_ | refine g10 @hdk @hobn @hobk @hdm @hua @hub @hbb @hx @e1 @hap ?_ | refine d10 @hdk @hobn @hobk @hdm @hua @hub @hbb @hx @e1 @hap ?_ | refine j10 @hdk @hobn @hobk @hdm @hua @hub @hbb @hx @e1 @hap (fun hg hgo => ?_) fun hg hgo => ?_ | refine ek_ret ?_ | refine ek_norm ?_ | refine ⟨by omega, ?_⟩ | rfl | trivial | intro _
           refine rd_norm _ (sub_of ?_) (m1 - 1) (by omega) ⟨k + 1, by omega, .inr ⟨by rw [hsn]; simp, rfl⟩⟩
           skip
           repeat' first | refine g2 @hobn @hobk ?_ | refine d2 @hobn @hobk ?_ | refine j2 @hobn @hobk (fun hg hgo => ?_) fun hg hgo => ?_ | refine ek_ret ?_ | refine ek_norm ?_ | refine ⟨by omega, ?_⟩ | rfl | trivial | intro _
      | false =>
       rw [hB] at hub
       as_aux_lemma =>
        have hy : renI h ⟨op, (rN : Int), (aN : Int), b, n⟩ = (⟨op, h[rN], h[aN], b, n⟩ : StepD) := by
         unfold renI; simp only [hM, hA, hB, if_true, Bool.false_eq_true, if_false]
         rw [hm_at hr2, hm_at ha2]
        cases hkp : keptB (⟨op, h[rN], h[aN], b, n⟩ : StepD) with
        | false =>
         have hk0 : op = 25 ∧ h[rN] = h[aN] := by simpa [keptB] using hkp
         have e1 : (op != 25) = false := by simp [hk0.1]
         have e2 : (h[rN] != h[aN]) = false := by simp [hk0.2]
         rw [← hy] at hkp
         rw [if_neg (by rw [hkp]; decide), List.append_nil] at hsn
         rcases hst with ⟨hl0, rfl⟩ | ⟨hl0, rfl⟩
         ·repeat' first | refine ck_intro (by first | exact kd | exact ku) ?_ ?_ | refine g10 @hdk @hobn @hobk @hdm @hua @hub @hbb @hx @e1 @e2 ?_ | refine d10 @hdk @hobn @hobk @hdm @hua @hub @hbb @hx @e1 @e2 ?_ | refine j10 @hdk @hobn @hobk @hdm @hua @hub @hbb @hx @e1 @e2 (fun hg hgo => ?_) fun hg hgo => ?_ | refine ek_ret ?_ | refine ek_norm ?_ | refine ⟨by omega, ?_⟩ | rfl | trivial | intro _
          refine rd_norm _ (sub_of ?_) (m1 - 1) (by omega) ⟨k + 1, by omega, .inl ⟨by rw [hsn]; exact hl0, rfl⟩⟩
          repeat' first | refine g2 @hobn @hobk ?_ | refine d2 @hobn @hobk ?_ | refine j2 @hobn @hobk (fun hg hgo => ?_) fun hg hgo => ?_ | refine ek_ret ?_ | refine ek_norm ?_ | refine ⟨by omega, ?_⟩ | rfl | trivial | intro _
         ·repeat' first | refine ck_intro (by first | exact kd | exact ku) ?_ ?_ | refine g10 @hdk @hobn @hobk @hdm @hua @hub @hbb @hx @e1 @e2 ?_ | refine d10 @hdk @hobn @hobk @hdm @hua @hub @hbb @hx @e1 @e2 ?_ | refine j10 @hdk @hobn @hobk @hdm @hua @hub @hbb @hx @e1 @e2 (fun hg hgo => ?_) fun hg hgo => ?_ | refine ek_ret ?_ | refine ek_norm ?_ | refine ⟨by omega, ?_⟩ | rfl | trivial | intro _
          refine rd_norm [(4, .box (.fv (.agg [.nil, .int .i64 0]))), (2, .box (.fv (fnF f))), (1, .fv (intR h)), (7, iv j), (6, ob), (9, iv (k + 1 : Nat)), (8, .box (.agg [.fv .nil, .own 5 (steps (renL h (bl.take k))), .fv (.agg [.int .i64 tk, .int .i64 ra, .int .i64 tto, .int .i64 te])]))] (sub_of ?_) (m1 - 1) (by omega) ⟨k + 1, by omega, .inr ⟨by rw [hsn]; exact hl0, by rw [hsn]⟩⟩
          repeat' first | refine g2 @hobn @hobk ?_ | refine d2 @hobn @hobk ?_ | refine j2 @hobn @hobk (fun hg hgo => ?_) fun hg hgo => ?_ | refine ek_ret ?_ | refine ek_norm ?_ | refine ⟨by omega, ?_⟩ | rfl | trivial | intro _
        | true =>
         rw [← hy] at hkp
         by_cases h25 : op = 25
         ·have e1 : (op != 25) = false := by simp [h25]
          have e2 : (h[rN] != h[aN]) = true := by rw [hy] at hkp; simpa [keptB, h25] using hkp
          rw [if_pos hkp] at hsn
          rcases hst with ⟨hl0, rfl⟩ | ⟨hl0, rfl⟩
          ·rw [hl0, List.nil_append] at hsn
           have hap : [DV.fv (.agg [.int .i64 op, .int .i64 (h[rN]), .int .i64 (h[aN]), .int .i64 (b), .int .i64 n])] = steps (renL h (bl.take (k + 1))) := by rw [hsn, hy]; rfl
           repeat' first | refine ck_intro (by first | exact kd | exact ku) ?_ ?_ | refine g10 @hdk @hobn @hobk @hdm @hua @hub @hbb @hx @e1 @e2 ?_ | refine d10 @hdk @hobn @hobk @hdm @hua @hub @hbb @hx @e1 @e2 ?_ | refine j10 @hdk @hobn @hobk @hdm @hua @hub @hbb @hx @e1 @e2 (fun hg hgo => ?_) fun hg hgo => ?_ | refine ek_ret ?_ | refine ek_norm ?_ | refine ⟨by omega, ?_⟩ | rfl | trivial | intro _
           refine rd_norm _ (sub_of ?_) (m1 - 1) (by omega) ⟨k + 1, by omega, .inr ⟨by rw [hsn]; simp, rfl⟩⟩
           rw [← hap]
           repeat' first | refine g2 @hobn @hobk ?_ | refine d2 @hobn @hobk ?_ | refine j2 @hobn @hobk (fun hg hgo => ?_) fun hg hgo => ?_ | refine ek_ret ?_ | refine ek_norm ?_ | refine ⟨by omega, ?_⟩ | rfl | trivial | intro _
          ·have hap : steps (renL h (bl.take k)) ++ [DV.fv (.agg [.int .i64 op, .int .i64 (h[rN]), .int .i64 (h[aN]), .int .i64 (b), .int .i64 n])] = steps (renL h (bl.take (k + 1))) := by rw [hsn, hy]; unfold steps; simp
           repeat' first | refine ck_intro (by first | exact kd | exact ku) ?_ ?_ | refine g11 @hdk @hobn @hobk @hdm @hua @hub @hbb @hx @e1 @e2 @hap ?_ | refine d11 @hdk @hobn @hobk @hdm @hua @hub @hbb @hx @e1 @e2 @hap ?_ | refine j11 @hdk @hobn @hobk @hdm @hua @hub @hbb @hx @e1 @e2 @hap (fun hg hgo => ?_) fun hg hgo => ?_ | refine ek_ret ?_ | refine ek_norm ?_ | refine ⟨by omega, ?_⟩ | rfl | trivial | intro _
           refine rd_norm _ (sub_of ?_) (m1 - 1) (by omega) ⟨k + 1, by omega, .inr ⟨by rw [hsn]; simp, rfl⟩⟩
           skip
           repeat' first | refine g2 @hobn @hobk ?_ | refine d2 @hobn @hobk ?_ | refine j2 @hobn @hobk (fun hg hgo => ?_) fun hg hgo => ?_ | refine ek_ret ?_ | refine ek_norm ?_ | refine ⟨by omega, ?_⟩ | rfl | trivial | intro _
         ·have e1 : (op != 25) = true := by simpa using h25
          rw [if_pos hkp] at hsn
          rcases hst with ⟨hl0, rfl⟩ | ⟨hl0, rfl⟩
          ·rw [hl0, List.nil_append] at hsn
           have hap : [DV.fv (.agg [.int .i64 op, .int .i64 (h[rN]), .int .i64 (h[aN]), .int .i64 (b), .int .i64 n])] = steps (renL h (bl.take (k + 1))) := by rw [hsn, hy]; rfl
           repeat' first | refine ck_intro (by first | exact kd | exact ku) ?_ ?_ | refine g9 @hdk @hobn @hobk @hdm @hua @hub @hbb @hx @e1 ?_ | refine d9 @hdk @hobn @hobk @hdm @hua @hub @hbb @hx @e1 ?_ | refine j9 @hdk @hobn @hobk @hdm @hua @hub @hbb @hx @e1 (fun hg hgo => ?_) fun hg hgo => ?_ | refine ek_ret ?_ | refine ek_norm ?_ | refine ⟨by omega, ?_⟩ | rfl | trivial | intro _
           refine rd_norm _ (sub_of ?_) (m1 - 1) (by omega) ⟨k + 1, by omega, .inr ⟨by rw [hsn]; simp, rfl⟩⟩
           rw [← hap]
           repeat' first | refine g2 @hobn @hobk ?_ | refine d2 @hobn @hobk ?_ | refine j2 @hobn @hobk (fun hg hgo => ?_) fun hg hgo => ?_ | refine ek_ret ?_ | refine ek_norm ?_ | refine ⟨by omega, ?_⟩ | rfl | trivial | intro _
          ·have hap : steps (renL h (bl.take k)) ++ [DV.fv (.agg [.int .i64 op, .int .i64 (h[rN]), .int .i64 (h[aN]), .int .i64 (b), .int .i64 n])] = steps (renL h (bl.take (k + 1))) := by rw [hsn, hy]; unfold steps; simp
           repeat' first | refine ck_intro (by first | exact kd | exact ku) ?_ ?_ | refine g10 @hdk @hobn @hobk @hdm @hua @hub @hbb @hx @e1 @hap ?_ | refine d10 @hdk @hobn @hobk @hdm @hua @hub @hbb @hx @e1 @hap ?_ | refine j10 @hdk @hobn @hobk @hdm @hua @hub @hbb @hx @e1 @hap (fun hg hgo => ?_) fun hg hgo => ?_ | refine ek_ret ?_ | refine ek_norm ?_ | refine ⟨by omega, ?_⟩ | rfl | trivial | intro _
           refine rd_norm _ (sub_of ?_) (m1 - 1) (by omega) ⟨k + 1, by omega, .inr ⟨by rw [hsn]; simp, rfl⟩⟩
           skip
           repeat' first | refine g2 @hobn @hobk ?_ | refine d2 @hobn @hobk ?_ | refine j2 @hobn @hobk (fun hg hgo => ?_) fun hg hgo => ?_ | refine ek_ret ?_ | refine ek_norm ?_ | refine ⟨by omega, ?_⟩ | rfl | trivial | intro _
     | false =>
      rw [hA] at hua
      have hB := B_A hA
      rw [hB] at hub
      as_aux_lemma =>
       have hy : renI h ⟨op, (rN : Int), a, b, n⟩ = (⟨op, h[rN], a, b, n⟩ : StepD) := by
        unfold renI; simp only [hM, hA, hB, if_true, Bool.false_eq_true, if_false]
        rw [hm_at hr2]
       cases hkp : keptB (⟨op, h[rN], a, b, n⟩ : StepD) with
       | false =>
        have hk0 : op = 25 ∧ h[rN] = a := by simpa [keptB] using hkp
        have e1 : (op != 25) = false := by simp [hk0.1]
        have e2 : (h[rN] != a) = false := by simp [hk0.2]
        rw [← hy] at hkp
        rw [if_neg (by rw [hkp]; decide), List.append_nil] at hsn
        rcases hst with ⟨hl0, rfl⟩ | ⟨hl0, rfl⟩
        ·repeat' first | refine ck_intro (by first | exact kd | exact ku) ?_ ?_ | refine g10 @hdk @hobn @hobk @hdm @hua @hub @hbb @hx @e1 @e2 ?_ | refine d10 @hdk @hobn @hobk @hdm @hua @hub @hbb @hx @e1 @e2 ?_ | refine j10 @hdk @hobn @hobk @hdm @hua @hub @hbb @hx @e1 @e2 (fun hg hgo => ?_) fun hg hgo => ?_ | refine ek_ret ?_ | refine ek_norm ?_ | refine ⟨by omega, ?_⟩ | rfl | trivial | intro _
         refine rd_norm _ (sub_of ?_) (m1 - 1) (by omega) ⟨k + 1, by omega, .inl ⟨by rw [hsn]; exact hl0, rfl⟩⟩
         repeat' first | refine g2 @hobn @hobk ?_ | refine d2 @hobn @hobk ?_ | refine j2 @hobn @hobk (fun hg hgo => ?_) fun hg hgo => ?_ | refine ek_ret ?_ | refine ek_norm ?_ | refine ⟨by omega, ?_⟩ | rfl | trivial | intro _
        ·repeat' first | refine ck_intro (by first | exact kd | exact ku) ?_ ?_ | refine g10 @hdk @hobn @hobk @hdm @hua @hub @hbb @hx @e1 @e2 ?_ | refine d10 @hdk @hobn @hobk @hdm @hua @hub @hbb @hx @e1 @e2 ?_ | refine j10 @hdk @hobn @hobk @hdm @hua @hub @hbb @hx @e1 @e2 (fun hg hgo => ?_) fun hg hgo => ?_ | refine ek_ret ?_ | refine ek_norm ?_ | refine ⟨by omega, ?_⟩ | rfl | trivial | intro _
         refine rd_norm [(4, .box (.fv (.agg [.nil, .int .i64 0]))), (2, .box (.fv (fnF f))), (1, .fv (intR h)), (7, iv j), (6, ob), (9, iv (k + 1 : Nat)), (8, .box (.agg [.fv .nil, .own 5 (steps (renL h (bl.take k))), .fv (.agg [.int .i64 tk, .int .i64 ra, .int .i64 tto, .int .i64 te])]))] (sub_of ?_) (m1 - 1) (by omega) ⟨k + 1, by omega, .inr ⟨by rw [hsn]; exact hl0, by rw [hsn]⟩⟩
         repeat' first | refine g2 @hobn @hobk ?_ | refine d2 @hobn @hobk ?_ | refine j2 @hobn @hobk (fun hg hgo => ?_) fun hg hgo => ?_ | refine ek_ret ?_ | refine ek_norm ?_ | refine ⟨by omega, ?_⟩ | rfl | trivial | intro _
       | true =>
        rw [← hy] at hkp
        by_cases h25 : op = 25
        ·have e1 : (op != 25) = false := by simp [h25]
         have e2 : (h[rN] != a) = true := by rw [hy] at hkp; simpa [keptB, h25] using hkp
         rw [if_pos hkp] at hsn
         rcases hst with ⟨hl0, rfl⟩ | ⟨hl0, rfl⟩
         ·rw [hl0, List.nil_append] at hsn
          have hap : [DV.fv (.agg [.int .i64 op, .int .i64 (h[rN]), .int .i64 (a), .int .i64 (b), .int .i64 n])] = steps (renL h (bl.take (k + 1))) := by rw [hsn, hy]; rfl
          repeat' first | refine ck_intro (by first | exact kd | exact ku) ?_ ?_ | refine g10 @hdk @hobn @hobk @hdm @hua @hub @hbb @hx @e1 @e2 ?_ | refine d10 @hdk @hobn @hobk @hdm @hua @hub @hbb @hx @e1 @e2 ?_ | refine j10 @hdk @hobn @hobk @hdm @hua @hub @hbb @hx @e1 @e2 (fun hg hgo => ?_) fun hg hgo => ?_ | refine ek_ret ?_ | refine ek_norm ?_ | refine ⟨by omega, ?_⟩ | rfl | trivial | intro _
          refine rd_norm _ (sub_of ?_) (m1 - 1) (by omega) ⟨k + 1, by omega, .inr ⟨by rw [hsn]; simp, rfl⟩⟩
          rw [← hap]
          repeat' first | refine g2 @hobn @hobk ?_ | refine d2 @hobn @hobk ?_ | refine j2 @hobn @hobk (fun hg hgo => ?_) fun hg hgo => ?_ | refine ek_ret ?_ | refine ek_norm ?_ | refine ⟨by omega, ?_⟩ | rfl | trivial | intro _
         ·have hap : steps (renL h (bl.take k)) ++ [DV.fv (.agg [.int .i64 op, .int .i64 (h[rN]), .int .i64 (a), .int .i64 (b), .int .i64 n])] = steps (renL h (bl.take (k + 1))) := by rw [hsn, hy]; unfold steps; simp
          repeat' first | refine ck_intro (by first | exact kd | exact ku) ?_ ?_ | refine g11 @hdk @hobn @hobk @hdm @hua @hub @hbb @hx @e1 @e2 @hap ?_ | refine d11 @hdk @hobn @hobk @hdm @hua @hub @hbb @hx @e1 @e2 @hap ?_ | refine j11 @hdk @hobn @hobk @hdm @hua @hub @hbb @hx @e1 @e2 @hap (fun hg hgo => ?_) fun hg hgo => ?_ | refine ek_ret ?_ | refine ek_norm ?_ | refine ⟨by omega, ?_⟩ | rfl | trivial | intro _
          refine rd_norm _ (sub_of ?_) (m1 - 1) (by omega) ⟨k + 1, by omega, .inr ⟨by rw [hsn]; simp, rfl⟩⟩
          skip
          repeat' first | refine g2 @hobn @hobk ?_ | refine d2 @hobn @hobk ?_ | refine j2 @hobn @hobk (fun hg hgo => ?_) fun hg hgo => ?_ | refine ek_ret ?_ | refine ek_norm ?_ | refine ⟨by omega, ?_⟩ | rfl | trivial | intro _
        ·have e1 : (op != 25) = true := by simpa using h25
         rw [if_pos hkp] at hsn
         rcases hst with ⟨hl0, rfl⟩ | ⟨hl0, rfl⟩
         ·rw [hl0, List.nil_append] at hsn
          have hap : [DV.fv (.agg [.int .i64 op, .int .i64 (h[rN]), .int .i64 (a), .int .i64 (b), .int .i64 n])] = steps (renL h (bl.take (k + 1))) := by rw [hsn, hy]; rfl
          repeat' first | refine ck_intro (by first | exact kd | exact ku) ?_ ?_ | refine g9 @hdk @hobn @hobk @hdm @hua @hub @hbb @hx @e1 ?_ | refine d9 @hdk @hobn @hobk @hdm @hua @hub @hbb @hx @e1 ?_ | refine j9 @hdk @hobn @hobk @hdm @hua @hub @hbb @hx @e1 (fun hg hgo => ?_) fun hg hgo => ?_ | refine ek_ret ?_ | refine ek_norm ?_ | refine ⟨by omega, ?_⟩ | rfl | trivial | intro _
          refine rd_norm _ (sub_of ?_) (m1 - 1) (by omega) ⟨k + 1, by omega, .inr ⟨by rw [hsn]; simp, rfl⟩⟩
          rw [← hap]
          repeat' first | refine g2 @hobn @hobk ?_ | refine d2 @hobn @hobk ?_ | refine j2 @hobn @hobk (fun hg hgo => ?_) fun hg hgo => ?_ | refine ek_ret ?_ | refine ek_norm ?_ | refine ⟨by omega, ?_⟩ | rfl | trivial | intro _
         ·have hap : steps (renL h (bl.take k)) ++ [DV.fv (.agg [.int .i64 op, .int .i64 (h[rN]), .int .i64 (a), .int .i64 (b), .int .i64 n])] = steps (renL h (bl.take (k + 1))) := by rw [hsn, hy]; unfold steps; simp
          repeat' first | refine ck_intro (by first | exact kd | exact ku) ?_ ?_ | refine g10 @hdk @hobn @hobk @hdm @hua @hub @hbb @hx @e1 @hap ?_ | refine d10 @hdk @hobn @hobk @hdm @hua @hub @hbb @hx @e1 @hap ?_ | refine j10 @hdk @hobn @hobk @hdm @hua @hub @hbb @hx @e1 @hap (fun hg hgo => ?_) fun hg hgo => ?_ | refine ek_ret ?_ | refine ek_norm ?_ | refine ⟨by omega, ?_⟩ | rfl | trivial | intro _
          refine rd_norm _ (sub_of ?_) (m1 - 1) (by omega) ⟨k + 1, by omega, .inr ⟨by rw [hsn]; simp, rfl⟩⟩
          skip
          repeat' first | refine g2 @hobn @hobk ?_ | refine d2 @hobn @hobk ?_ | refine j2 @hobn @hobk (fun hg hgo => ?_) fun hg hgo => ?_ | refine ek_ret ?_ | refine ek_norm ?_ | refine ⟨by omega, ?_⟩ | rfl | trivial | intro _
    | false =>
     rw [hM] at hdm
     cases hA : hasA op with
     | true =>
      rw [hA] at hua
      obtain ⟨aN, ha1, ha2⟩ := hix.a hA
      simp only at ha1
      subst ha1
      have ham : aN < (h.map (FV.int .i64)).length := by rw [List.length_map]; exact ha2
      cases hB : hasBb op with
      | true =>
       rw [hB] at hub
       obtain ⟨bN, hb1, hb2⟩ := hix.b hB
       simp only at hb1
       subst hb1
       have hbm : bN < (h.map (FV.int .i64)).length := by rw [List.length_map]; exact hb2
       as_aux_lemma =>
        have hy : renI h ⟨op, r, (aN : Int), (bN : Int), n⟩ = (⟨op, r, h[aN], h[bN], n⟩ : StepD) := by
         unfold renI; simp only [hM, hA, hB, if_true, Bool.false_eq_true, if_false]
         rw [hm_at ha2, hm_at hb2]
        cases hkp : keptB (⟨op, r, h[aN], h[bN], n⟩ : StepD) with
        | false =>
         have hk0 : op = 25 ∧ r = h[aN] := by simpa [keptB] using hkp
         have e1 : (op != 25) = false := by simp [hk0.1]
         have e2 : (r != h[aN]) = false := by simp [hk0.2]
         rw [← hy] at hkp
         rw [if_neg (by rw [hkp]; decide), List.append_nil] at hsn
         rcases hst with ⟨hl0, rfl⟩ | ⟨hl0, rfl⟩
         ·repeat' first | refine ck_intro (by first | exact kd | exact ku) ?_ ?_ | refine g10 @hdk @hobn @hobk @hdm @hua @hub @hbb @hx @e1 @e2 ?_ | refine d10 @hdk @hobn @hobk @hdm @hua @hub @hbb @hx @e1 @e2 ?_ | refine j10 @hdk @hobn @hobk @hdm @hua @hub @hbb @hx @e1 @e2 (fun hg hgo => ?_) fun hg hgo => ?_ | refine ek_ret ?_ | refine ek_norm ?_ | refine ⟨by omega, ?_⟩ | rfl | trivial | intro _
          refine rd_norm _ (sub_of ?_) (m1 - 1) (by omega) ⟨k + 1, by omega, .inl ⟨by rw [hsn]; exact hl0, rfl⟩⟩
          repeat' first | refine g2 @hobn @hobk ?_ | refine d2 @hobn @hobk ?_ | refine j2 @hobn @hobk (fun hg hgo => ?_) fun hg hgo => ?_ | refine ek_ret ?_ | refine ek_norm ?_ | refine ⟨by omega, ?_⟩ | rfl | trivial | intro _
         ·repeat' first | refine ck_intro (by first | exact kd | exact ku) ?_ ?_ | refine g10 @hdk @hobn @hobk @hdm @hua @hub @hbb @hx @e1 @e2 ?_ | refine d10 @hdk @hobn @hobk @hdm @hua @hub @hbb @hx @e1 @e2 ?_ | refine j10 @hdk @hobn @hobk @hdm @hua @hub @hbb @hx @e1 @e2 (fun hg hgo => ?_) fun hg hgo => ?_ | refine ek_ret ?_ | refine ek_norm ?_ | refine ⟨by omega, ?_⟩ | rfl | trivial | intro _
          refine rd_norm [(4, .box (.fv (.agg [.nil, .int .i64 0]))), (2, .box (.fv (fnF f))), (1, .fv (intR h)), (7, iv j), (6, ob), (9, iv (k + 1 : Nat)), (8, .box (.agg [.fv .nil, .own 5 (steps (renL h (bl.take k))), .fv (.agg [.int .i64 tk, .int .i64 ra, .int .i64 tto, .int .i64 te])]))] (sub_of ?_) (m1 - 1) (by omega) ⟨k + 1, by omega, .inr ⟨by rw [hsn]; exact hl0, by rw [hsn]⟩⟩
          repeat' first | refine g2 @hobn @hobk ?_ | refine d2 @hobn @hobk ?_ | refine j2 @hobn @hobk (fun hg hgo => ?_) fun hg hgo => ?_ | refine ek_ret ?_ | refine ek_norm ?_ | refine ⟨by omega, ?_⟩ | rfl | trivial | intro _
        | true =>
         rw [← hy] at hkp
         by_cases h25 : op = 25
         ·have e1 : (op != 25) = false := by simp [h25]
          have e2 : (r != h[aN]) = true := by rw [hy] at hkp; simpa [keptB, h25] using hkp
          rw [if_pos hkp] at hsn
          rcases hst with ⟨hl0, rfl⟩ | ⟨hl0, rfl⟩
          ·rw [hl0, List.nil_append] at hsn
           have hap : [DV.fv (.agg [.int .i64 op, .int .i64 (r), .int .i64 (h[aN]), .int .i64 (h[bN]), .int .i64 n])] = steps (renL h (bl.take (k + 1))) := by rw [hsn, hy]; rfl
           repeat' first | refine ck_intro (by first | exact kd | exact ku) ?_ ?_ | refine g10 @hdk @hobn @hobk @hdm @hua @hub @hbb @hx @e1 @e2 ?_ | refine d10 @hdk @hobn @hobk @hdm @hua @hub @hbb @hx @e1 @e2 ?_ | refine j10 @hdk @hobn @hobk @hdm @hua @hub @hbb @hx @e1 @e2 (fun hg hgo => ?_) fun hg hgo => ?_ | refine ek_ret ?_ | refine ek_norm ?_ | refine ⟨by omega, ?_⟩ | rfl | trivial | intro _
           refine rd_norm _ (sub_of ?_) (m1 - 1) (by omega) ⟨k + 1, by omega, .inr ⟨by rw [hsn]; simp, rfl⟩⟩
           rw [← hap]
           repeat' first | refine g2 @hobn @hobk ?_ | refine d2 @hobn @hobk ?_ | refine j2 @hobn @hobk (fun hg hgo => ?_) fun hg hgo => ?_ | refine ek_ret ?_ | refine ek_norm ?_ | refine ⟨by omega, ?_⟩ | rfl | trivial | intro _
          ·have hap : steps (renL h (bl.take k)) ++ [DV.fv (.agg [.int .i64 op, .int .i64 (r), .int .i64 (h[aN]), .int .i64 (h[bN]), .int .i64 n])] = steps (renL h (bl.take (k + 1))) := by rw [hsn, hy]; unfold steps; simp
           repeat' first | refine ck_intro (by first | exact kd | exact ku) ?_ ?_ | refine g11 @hdk @hobn @hobk @hdm @hua @hub @hbb @hx @e1 @e2 @hap ?_ | refine d11 @hdk @hobn @hobk @hdm @hua @hub @hbb @hx @e1 @e2 @hap ?_ | refine j11 @hdk @hobn @hobk @hdm @hua @hub @hbb @hx @e1 @e2 @hap (fun hg hgo => ?_) fun hg hgo => ?_ | refine ek_ret ?_ | refine ek_norm ?_ | refine ⟨by omega, ?_⟩ | rfl | trivial | intro _
           refine rd_norm _ (sub_of ?_) (m1 - 1) (by omega) ⟨k + 1, by omega, .inr ⟨by rw [hsn]; simp, rfl⟩⟩
           skip
           repeat' first | refine g2 @hobn @hobk ?_ | refine d2 @hobn @hobk ?_ | refine j2 @hobn @hobk (fun hg hgo => ?_) fun hg hgo => ?_ | refine ek_ret ?_ | refine ek_norm ?_ | refine ⟨by omega, ?_⟩ | rfl | trivial | intro _
         ·have e1 : (op != 25) = true := by simpa using h25
          rw [if_pos hkp] at hsn
          rcases hst with ⟨hl0, rfl⟩ | ⟨hl0, rfl⟩
          ·rw [hl0, List.nil_append] at hsn
           have hap : [DV.fv (.agg [.int .i64 op, .int .i64 (r), .int .i64 (h[aN]), .int .i64 (h[bN]), .int .i64 n])] = steps (renL h (bl.take (k + 1))) := by rw [hsn, hy]; rfl
           repeat' first | refine ck_intro (by first | exact kd | exact ku) ?_ ?_ | refine g9 @hdk @hobn @hobk @hdm @hua @hub @hbb @hx @e1 ?_ | refine d9 @hdk @hobn @hobk @hdm @hua @hub @hbb @hx @e1 ?_ | refine j9 @hdk @hobn @hobk @hdm @hua @hub @hbb @hx @e1 (fun hg hgo => ?_) fun hg hgo => ?_ | refine ek_ret ?_ | refine ek_norm ?_ | refine ⟨by omega, ?_⟩ | rfl | trivial | intro _
           refine rd_norm _ (sub_of ?_) (m1 - 1) (by omega) ⟨k + 1, by omega, .inr ⟨by rw [hsn]; simp, rfl⟩⟩
           rw [← hap]
           repeat' first | refine g2 @hobn @hobk ?_ | refine d2 @hobn @hobk ?_ | refine j2 @hobn @hobk (fun hg hgo => ?_) fun hg hgo => ?_ | refine ek_ret ?_ | refine ek_norm ?_ | refine ⟨by omega, ?_⟩ | rfl | trivial | intro _
          ·have hap : steps (renL h (bl.take k)) ++ [DV.fv (.agg [.int .i64 op, .int .i64 (r), .int .i64 (h[aN]), .int .i64 (h[bN]), .int .i64 n])] = steps (renL h (bl.take (k + 1))) := by rw [hsn, hy]; unfold steps; simp
           repeat' first | refine ck_intro (by first | exact kd | exact ku) ?_ ?_ | refine g10 @hdk @hobn @hobk @hdm @hua @hub @hbb @hx @e1 @hap ?_ | refine d10 @hdk @hobn @hobk @hdm @hua @hub @hbb @hx @e1 @hap ?_ | refine j10 @hdk @hobn @hobk @hdm @hua @hub @hbb @hx @e1 @hap (fun hg hgo => ?_) fun hg hgo => ?_ | refine ek_ret ?_ | refine ek_norm ?_ | refine ⟨by omega, ?_⟩ | rfl | trivial | intro _
           refine rd_norm _ (sub_of ?_) (m1 - 1) (by omega) ⟨k + 1, by omega, .inr ⟨by rw [hsn]; simp, rfl⟩⟩
           skip
           repeat' first | refine g2 @hobn @hobk ?_ | refine d2 @hobn @hobk ?_ | refine j2 @hobn @hobk (fun hg hgo => ?_) fun hg hgo => ?_ | refine ek_ret ?_ | refine ek_norm ?_ | refine ⟨by omega, ?_⟩ | rfl | trivial | intro _
      | false =>
       rw [hB] at hub
       as_aux_lemma =>
        have hy : renI h ⟨op, r, (aN : Int), b, n⟩ = (⟨op, r, h[aN], b, n⟩ : StepD) := by
         unfold renI; simp only [hM, hA, hB, if_true, Bool.false_eq_true, if_false]
         rw [hm_at ha2]
        cases hkp : keptB (⟨op, r, h[aN], b, n⟩ : StepD) with
        | false =>
         have hk0 : op = 25 ∧ r = h[aN] := by simpa [keptB] using hkp
         have e1 : (op != 25) = false := by simp [hk0.1]
         have e2 : (r != h[aN]) = false := by simp [hk0.2]
         rw [← hy] at hkp
         rw [if_neg (by rw [hkp]; decide), List.append_nil] at hsn
         rcases hst with ⟨hl0, rfl⟩ | ⟨hl0, rfl⟩
         ·repeat' first | refine ck_intro (by first | exact kd | exact ku) ?_ ?_ | refine g10 @hdk @hobn @hobk @hdm @hua @hub @hbb @hx @e1 @e2 ?_ | refine d10 @hdk @hobn @hobk @hdm @hua @hub @hbb @hx @e1 @e2 ?_ | refine j10 @hdk @hobn @hobk @hdm @hua @hub @hbb @hx @e1 @e2 (fun hg hgo => ?_) fun hg hgo => ?_ | refine ek_ret ?_ | refine ek_norm ?_ | refine ⟨by omega, ?_⟩ | rfl | trivial | intro _
          refine rd_norm _ (sub_of ?_) (m1 - 1) (by omega) ⟨k + 1, by omega, .inl ⟨by rw [hsn]; exact hl0, rfl⟩⟩
          repeat' first | refine g2 @hobn @hobk ?_ | refine d2 @hobn @hobk ?_ | refine j2 @hobn @hobk (fun hg hgo => ?_) fun hg hgo => ?_ | refine ek_ret ?_ | refine ek_norm ?_ | refine ⟨by omega, ?_⟩ | rfl | trivial | intro _
         ·repeat' first | refine ck_intro (by first | exact kd | exact ku) ?_ ?_ | refine g10 @hdk @hobn @hobk @hdm @hua @hub @hbb @hx @e1 @e2 ?_ | refine d10 @hdk @hobn @hobk @hdm @hua @hub @hbb @hx @e1 @e2 ?_ | refine j10 @hdk @hobn @hobk @hdm @hua @hub @hbb @hx @e1 @e2 (fun hg hgo => ?_) fun hg hgo => ?_ | refine ek_ret ?_ | refine ek_norm ?_ | refine ⟨by omega, ?_⟩ | rfl | trivial | intro _
          refine rd_norm [(4, .box (.fv (.agg [.nil, .int .i64 0]))), (2, .box (.fv (fnF f))), (1, .fv (intR h)), (7, iv j), (6, ob), (9, iv (k + 1 : Nat)), (8, .box (.agg [.fv .nil, .own 5 (steps (renL h (bl.take k))), .fv (.agg [.int .i64 tk, .int .i64 ra, .int .i64 tto, .int .i64 te])]))] (sub_of ?_) (m1 - 1) (by omega) ⟨k + 1, by omega, .inr ⟨by rw [hsn]; exact hl0, by rw [hsn]⟩⟩
          repeat' first | refine g2 @hobn @hobk ?_ | refine d2 @hobn @hobk ?_ | refine j2 @hobn @hobk (fun hg hgo => ?_) fun hg hgo => ?_ | refine ek_ret ?_ | refine ek_norm ?_ | refine ⟨by omega, ?_⟩ | rfl | trivial | intro _
        | true =>
         rw [← hy] at hkp
         by_cases h25 : op = 25
         ·have e1 : (op != 25) = false := by simp [h25]
          have e2 : (r != h[aN]) = true := by rw [hy] at hkp; simpa [keptB, h25] using hkp
          rw [if_pos hkp] at hsn
          rcases hst with ⟨hl0, rfl⟩ | ⟨hl0, rfl⟩
          ·rw [hl0, List.nil_append] at hsn
           have hap : [DV.fv (.agg [.int .i64 op, .int .i64 (r), .int .i64 (h[aN]), .int .i64 (b), .int .i64 n])] = steps (renL h (bl.take (k + 1))) := by rw [hsn, hy]; rfl
           repeat' first | refine ck_intro (by first | exact kd | exact ku) ?_ ?_ | refine g10 @hdk @hobn @hobk @hdm @hua @hub @hbb @hx @e1 @e2 ?_ | refine d10 @hdk @hobn @hobk @hdm @hua @hub @hbb @hx @e1 @e2 ?_ | refine j10 @hdk @hobn @hobk @hdm @hua @hub @hbb @hx @e1 @e2 (fun hg hgo => ?_) fun hg hgo => ?_ | refine ek_ret ?_ | refine ek_norm ?_ | refine ⟨by omega, ?_⟩ | rfl | trivial | intro _
           refine rd_norm _ (sub_of ?_) (m1 - 1) (by omega) ⟨k + 1, by omega, .inr ⟨by rw [hsn]; simp, rfl⟩⟩
           rw [← hap]
           repeat' first | refine g2 @hobn @hobk ?_ | refine d2 @hobn @hobk ?_ | refine j2 @hobn @hobk (fun hg hgo => ?_) fun hg hgo => ?_ | refine ek_ret ?_ | refine ek_norm ?_ | refine ⟨by omega, ?_⟩ | rfl | trivial | intro _
          ·have hap : steps (renL h (bl.take k)) ++ [DV.fv (.agg [.int .i64 op, .int .i64 (r), .int .i64 (h[aN]), .int .i64 (b), .int .i64 n])] = steps (renL h (bl.take (k + 1))) := by rw [hsn, hy]; unfold steps; simp
           repeat' first | refine ck_intro (by first | exact kd | exact ku) ?_ ?_ | refine g11 @hdk @hobn @hobk @hdm @hua @hub @hbb @hx @e1 @e2 @hap ?_ | refine d11 @hdk @hobn @hobk @hdm @hua @hub @hbb @hx @e1 @e2 @hap ?_ | refine j11 @hdk @hobn @hobk @hdm @hua @hub @hbb @hx @e1 @e2 @hap (fun hg hgo => ?_) fun hg hgo => ?_ | refine ek_ret ?_ | refine ek_norm ?_ | refine ⟨by omega, ?_⟩ | rfl | trivial | intro _
           refine rd_norm _ (sub_of ?_) (m1 - 1) (by omega) ⟨k + 1, by omega, .inr ⟨by rw [hsn]; simp, rfl⟩⟩
           skip
           repeat' first | refine g2 @hobn @hobk ?_ | refine d2 @hobn @hobk ?_ | refine j2 @hobn @hobk (fun hg hgo => ?_) fun hg hgo => ?_ | refine ek_ret ?_ | refine ek_norm ?_ | refine ⟨by omega, ?_⟩ | rfl | trivial | intro _
         ·have e1 : (op != 25) = true := by simpa using h25
          rw [if_pos hkp] at hsn
          rcases hst with ⟨hl0, rfl⟩ | ⟨hl0, rfl⟩
          ·rw [hl0, List.nil_append] at hsn
           have hap : [DV.fv (.agg [.int .i64 op, .int .i64 (r), .int .i64 (h[aN]), .int .i64 (b), .int .i64 n])] = steps (renL h (bl.take (k + 1))) := by rw [hsn, hy]; rfl
           repeat' first | refine ck_intro (by first | exact kd | exact ku) ?_ ?_ | refine g9 @hdk @hobn @hobk @hdm @hua @hub @hbb @hx @e1 ?_ | refine d9 @hdk @hobn @hobk @hdm @hua @hub @hbb @hx @e1 ?_ | refine j9 @hdk @hobn @hobk @hdm @hua @hub @hbb @hx @e1 (fun hg hgo => ?_) fun hg hgo => ?_ | refine ek_ret ?_ | refine ek_norm ?_ | refine ⟨by omega, ?_⟩ | rfl | trivial | intro _
           refine rd_norm _ (sub_of ?_) (m1 - 1) (by omega) ⟨k + 1, by omega, .inr ⟨by rw [hsn]; simp, rfl⟩⟩
           rw [← hap]
           repeat' first | refine g2 @hobn @hobk ?_ | refine d2 @hobn @hobk ?_ | refine j2 @hobn @hobk (fun hg hgo => ?_) fun hg hgo => ?_ | refine ek_ret ?_ | refine ek_norm ?_ | refine ⟨by omega, ?_⟩ | rfl | trivial | intro _
          ·have hap : steps (renL h (bl.take k)) ++ [DV.fv (.agg [.int .i64 op, .int .i64 (r), .int .i64 (h[aN]), .int .i64 (b), .int .i64 n])] = steps (renL h (bl.take (k + 1))) := by rw [hsn, hy]; unfold steps; simp
           repeat' first | refine ck_intro (by first | exact kd | exact ku) ?_ ?_ | refine g10 @hdk @hobn @hobk @hdm @hua @hub @hbb @hx @e1 @hap ?_ | refine d10 @hdk @hobn @hobk @hdm @hua @hub @hbb @hx @e1 @hap ?_ | refine j10 @hdk @hobn @hobk @hdm @hua @hub @hbb @hx @e1 @hap (fun hg hgo => ?_) fun hg hgo => ?_ | refine ek_ret ?_ | refine ek_norm ?_ | refine ⟨by omega, ?_⟩ | rfl | trivial | intro _
           refine rd_norm _ (sub_of ?_) (m1 - 1) (by omega) ⟨k + 1, by omega, .inr ⟨by rw [hsn]; simp, rfl⟩⟩
           skip
           repeat' first | refine g2 @hobn @hobk ?_ | refine d2 @hobn @hobk ?_ | refine j2 @hobn @hobk (fun hg hgo => ?_) fun hg hgo => ?_ | refine ek_ret ?_ | refine ek_norm ?_ | refine ⟨by omega, ?_⟩ | rfl | trivial | intro _
     | false =>
      rw [hA] at hua
      have hB := B_A hA
      rw [hB] at hub
      as_aux_lemma =>
       have hy : renI h ⟨op, r, a, b, n⟩ = (⟨op, r, a, b, n⟩ : StepD) := by
        unfold renI; simp only [hM, hA, hB, Bool.false_eq_true, if_false]
       cases hkp : keptB (⟨op, r, a, b, n⟩ : StepD) with
       | false =>
        have hk0 : op = 25 ∧ r = a := by simpa [keptB] using hkp
        have e1 : (op != 25) = false := by simp [hk0.1]
        have e2 : (r != a) = false := by simp [hk0.2]
        rw [← hy] at hkp
        rw [if_neg (by rw [hkp]; decide), List.append_nil] at hsn
        rcases hst with ⟨hl0, rfl⟩ | ⟨hl0, rfl⟩
        ·repeat' first | refine ck_intro (by first | exact kd | exact ku) ?_ ?_ | refine g10 @hdk @hobn @hobk @hdm @hua @hub @hbb @hx @e1 @e2 ?_ | refine d10 @hdk @hobn @hobk @hdm @hua @hub @hbb @hx @e1 @e2 ?_ | refine j10 @hdk @hobn @hobk @hdm @hua @hub @hbb @hx @e1 @e2 (fun hg hgo => ?_) fun hg hgo => ?_ | refine ek_ret ?_ | refine ek_norm ?_ | refine ⟨by omega, ?_⟩ | rfl | trivial | intro _
         refine rd_norm _ (sub_of ?_) (m1 - 1) (by omega) ⟨k + 1, by omega, .inl ⟨by rw [hsn]; exact hl0, rfl⟩⟩
         repeat' first | refine g2 @hobn @hobk ?_ | refine d2 @hobn @hobk ?_ | refine j2 @hobn @hobk (fun hg hgo => ?_) fun hg hgo => ?_ | refine ek_ret ?_ | refine ek_norm ?_ | refine ⟨by omega, ?_⟩ | rfl | trivial | intro _
        ·repeat' first | refine ck_intro (by first | exact kd | exact ku) ?_ ?_ | refine g10 @hdk @hobn @hobk @hdm @hua @hub @hbb @hx @e1 @e2 ?_ | refine d10 @hdk @hobn @hobk @hdm @hua @hub @hbb @hx @e1 @e2 ?_ | refine j10 @hdk @hobn @hobk @hdm @hua @hub @hbb @hx @e1 @e2 (fun hg hgo => ?_) fun hg hgo => ?_ | refine ek_ret ?_ | refine ek_norm ?_ | refine ⟨by omega, ?_⟩ | rfl | trivial | intro _
         refine rd_norm [(4, .box (.fv (.agg [.nil, .int .i64 0]))), (2, .box (.fv (fnF f))), (1, .fv (intR h)), (7, iv j), (6, ob), (9, iv (k + 1 : Nat)), (8, .box (.agg [.fv .nil, .own 5 (steps (renL h (bl.take k))), .fv (.agg [.int .i64 tk, .int .i64 ra, .int .i64 tto, .int .i64 te])]))] (sub_of ?_) (m1 - 1) (by omega) ⟨k + 1, by omega, .inr ⟨by rw [hsn]; exact hl0, by rw [hsn]⟩⟩
         repeat' first | refine g2 @hobn @hobk ?_ | refine d2 @hobn @hobk ?_ | refine j2 @hobn @hobk (fun hg hgo => ?_) fun hg hgo => ?_ | refine ek_ret ?_ | refine ek_norm ?_ | refine ⟨by omega, ?_⟩ | rfl | trivial | intro _
       | true =>
        rw [← hy] at hkp
        by_cases h25 : op = 25
        ·have e1 : (op != 25) = false := by simp [h25]
         have e2 : (r != a) = true := by rw [hy] at hkp; simpa [keptB, h25] using hkp
         rw [if_pos hkp] at hsn
         rcases hst with ⟨hl0, rfl⟩ | ⟨hl0, rfl⟩
         ·rw [hl0, List.nil_append] at hsn
          have hap : [DV.fv (.agg [.int .i64 op, .int .i64 (r), .int .i64 (a), .int .i64 (b), .int .i64 n])] = steps (renL h (bl.take (k + 1))) := by rw [hsn, hy]; rfl
          repeat' first | refine ck_intro (by first | exact kd | exact ku) ?_ ?_ | refine g10 @hdk @hobn @hobk @hdm @hua @hub @hbb @hx @e1 @e2 ?_ | refine d10 @hdk @hobn @hobk @hdm @hua @hub @hbb @hx @e1 @e2 ?_ | refine j10 @hdk @hobn @hobk @hdm @hua @hub @hbb @hx @e1 @e2 (fun hg hgo => ?_) fun hg hgo => ?_ | refine ek_ret ?_ | refine ek_norm ?_ | refine ⟨by omega, ?_⟩ | rfl | trivial | intro _
          refine rd_norm _ (sub_of ?_) (m1 - 1) (by omega) ⟨k + 1, by omega, .inr ⟨by rw [hsn]; simp, rfl⟩⟩
          rw [← hap]
          repeat' first | refine g2 @hobn @hobk ?_ | refine d2 @hobn @hobk ?_ | refine j2 @hobn @hobk (fun hg hgo => ?_) fun hg hgo => ?_ | refine ek_ret ?_ | refine ek_norm ?_ | refine ⟨by omega, ?_⟩ | rfl | trivial | intro _
         ·have hap : steps (renL h (bl.take k)) ++ [DV.fv (.agg [.int .i64 op, .int .i64 (r), .int .i64 (a), .int .i64 (b), .int .i64 n])] = steps (renL h (bl.take (k + 1))) := by rw [hsn, hy]; unfold steps; simp
          repeat' first | refine ck_intro (by first | exact kd | exact ku) ?_ ?_ | refine g11 @hdk @hobn @hobk @hdm @hua @hub @hbb @hx @e1 @e2 @hap ?_ | refine d11 @hdk @hobn @hobk @hdm @hua @hub @hbb @hx @e1 @e2 @hap ?_ | refine j11 @hdk @hobn @hobk @hdm @hua @hub @hbb @hx @e1 @e2 @hap (fun hg hgo => ?_) fun hg hgo => ?_ | refine ek_ret ?_ | refine ek_norm ?_ | refine ⟨by omega, ?_⟩ | rfl | trivial | intro _
          refine rd_norm _ (sub_of ?_) (m1 - 1) (by omega) ⟨k + 1, by omega, .inr ⟨by rw [hsn]; simp, rfl⟩⟩
          skip
          repeat' first | refine g2 @hobn @hobk ?_ | refine d2 @hobn @hobk ?_ | refine j2 @hobn @hobk (fun hg hgo => ?_) fun hg hgo => ?_ | refine ek_ret ?_ | refine ek_norm ?_ | refine ⟨by omega, ?_⟩ | rfl | trivial | intro _
        ·have e1 : (op != 25) = true := by simpa using h25
         rw [if_pos hkp] at hsn
         rcases hst with ⟨hl0, rfl⟩ | ⟨hl0, rfl⟩
         ·rw [hl0, List.nil_append] at hsn
          have hap : [DV.fv (.agg [.int .i64 op, .int .i64 (r), .int .i64 (a), .int .i64 (b), .int .i64 n])] = steps (renL h (bl.take (k + 1))) := by rw [hsn, hy]; rfl
          repeat' first | refine ck_intro (by first | exact kd | exact ku) ?_ ?_ | refine g9 @hdk @hobn @hobk @hdm @hua @hub @hbb @hx @e1 ?_ | refine d9 @hdk @hobn @hobk @hdm @hua @hub @hbb @hx @e1 ?_ | refine j9 @hdk @hobn @hobk @hdm @hua @hub @hbb @hx @e1 (fun hg hgo => ?_) fun hg hgo => ?_ | refine ek_ret ?_ | refine ek_norm ?_ | refine ⟨by omega, ?_⟩ | rfl | trivial | intro _
          refine rd_norm _ (sub_of ?_) (m1 - 1) (by omega) ⟨k + 1, by omega, .inr ⟨by rw [hsn]; simp, rfl⟩⟩
          rw [← hap]
          repeat' first | refine g2 @hobn @hobk ?_ | refine d2 @hobn @hobk ?_ | refine j2 @hobn @hobk (fun hg hgo => ?_) fun hg hgo => ?_ | refine ek_ret ?_ | refine ek_norm ?_ | refine ⟨by omega, ?_⟩ | rfl | trivial | intro _
         ·have hap : steps (renL h (bl.take k)) ++ [DV.fv (.agg [.int .i64 op, .int .i64 (r), .int .i64 (a), .int .i64 (b), .int .i64 n])] = steps (renL h (bl.take (k + 1))) := by rw [hsn, hy]; unfold steps; simp
          repeat' first | refine ck_intro (by first | exact kd | exact ku) ?_ ?_ | refine g10 @hdk @hobn @hobk @hdm @hua @hub @hbb @hx @e1 @hap ?_ | refine d10 @hdk @hobn @hobk @hdm @hua @hub @hbb @hx @e1 @hap ?_ | refine j10 @hdk @hobn @hobk @hdm @hua @hub @hbb @hx @e1 @hap (fun hg hgo => ?_) fun hg hgo => ?_ | refine ek_ret ?_ | refine ek_norm ?_ | refine ⟨by omega, ?_⟩ | rfl | trivial | intro _
          refine rd_norm _ (sub_of ?_) (m1 - 1) (by omega) ⟨k + 1, by omega, .inr ⟨by rw [hsn]; simp, rfl⟩⟩
          skip
          repeat' first | refine g2 @hobn @hobk ?_ | refine d2 @hobn @hobk ?_ | refine j2 @hobn @hobk (fun hg hgo => ?_) fun hg hgo => ?_ | refine ek_ret ?_ | refine ek_norm ?_ | refine ⟨by omega, ?_⟩ | rfl | trivial | intro _
   ·have hdk : decide ((k : Int) < (bl.length : Int)) = false := by rw [decide_eq_false_iff_not]; omega
    rw [List.take_of_length_le (by omega : bl.length ≤ k)] at hst
    have hrl := @renL_len h bl
    rcases hst with ⟨hl0, rfl⟩ | ⟨hl0, rfl⟩
    ·have hnb : natB (renB h (⟨bp, bl, ⟨tk, ta, tto, te⟩⟩ : BlockD)) = .fv (.agg [.nil, .nil, .agg [.int .i64 tk, .int .i64 ra, .int .i64 tto, .int .i64 te]]) := by unfold natB renB; simp only; rw [if_pos hl0, ← rt2]; rfl
     rcases hob with ⟨rfl, rfl⟩ | ⟨hj0, rfl⟩
     ·have hap : [(.fv (.agg [.nil, .nil, .agg [.int .i64 tk, .int .i64 ra, .int .i64 tto, .int .i64 te]]) : DV)] = rowD natB ((f.blocks.take (0 + 1)).map (renB h)) := by rw [hnx, List.take_zero]; simp only [List.map_nil, List.nil_append, rowD, List.map_cons]; rw [hnb]
      repeat' first | refine g2 @hdk @hbb ?_ | refine d2 @hdk @hbb ?_ | refine j2 @hdk @hbb (fun hg hgo => ?_) fun hg hgo => ?_ | refine ek_ret ?_ | refine ek_norm ?_ | refine ⟨by omega, ?_⟩ | rfl | trivial | intro _
      refine rd_norm _ (sub_of ?_) (m - 1) (by omega) ⟨0 + 1, by omega, .inr ⟨by omega, rfl⟩⟩
      rw [← hap]
      exact dn
     ·have hap : rowD natB ((f.blocks.take j).map (renB h)) ++ [(.fv (.agg [.nil, .nil, .agg [.int .i64 tk, .int .i64 ra, .int .i64 tto, .int .i64 te]]) : DV)] = rowD natB ((f.blocks.take (j + 1)).map (renB h)) := by rw [hnx]; simp only [rowD, List.map_append, List.map_cons, List.map_nil]; rw [hnb]
      repeat' first | refine g3 @hdk @hap @hbb ?_ | refine d3 @hdk @hap @hbb ?_ | refine j3 @hdk @hap @hbb (fun hg hgo => ?_) fun hg hgo => ?_ | refine ek_ret ?_ | refine ek_norm ?_ | refine ⟨by omega, ?_⟩ | rfl | trivial | intro _
      refine rd_norm _ (sub_of ?_) (m - 1) (by omega) ⟨j + 1, by omega, .inr ⟨by omega, rfl⟩⟩
      skip
      exact dn
    ·have hnb : natB (renB h (⟨bp, bl, ⟨tk, ta, tto, te⟩⟩ : BlockD)) = .agg [.fv .nil, .own 5 (steps (renL h bl)), .fv (.agg [.int .i64 tk, .int .i64 ra, .int .i64 tto, .int .i64 te])] := by unfold natB renB; simp only; rw [if_neg hl0, ← rt2]; rfl
     rcases hob with ⟨rfl, rfl⟩ | ⟨hj0, rfl⟩
     ·have hap : [(.agg [.fv .nil, .own 5 (steps (renL h bl)), .fv (.agg [.int .i64 tk, .int .i64 ra, .int .i64 tto, .int .i64 te])] : DV)] = rowD natB ((f.blocks.take (0 + 1)).map (renB h)) := by rw [hnx, List.take_zero]; simp only [List.map_nil, List.nil_append, rowD, List.map_cons]; rw [hnb]
      repeat' first | refine g3 @hdk @fvs_aggc @hbb ?_ | refine d3 @hdk @fvs_aggc @hbb ?_ | refine j3 @hdk @fvs_aggc @hbb (fun hg hgo => ?_) fun hg hgo => ?_ | refine ek_ret ?_ | refine ek_norm ?_ | refine ⟨by omega, ?_⟩ | rfl | trivial | intro _
      refine rd_norm _ (sub_of ?_) (m - 1) (by omega) ⟨0 + 1, by omega, .inr ⟨by omega, rfl⟩⟩
      rw [← hap]
      exact dn
     ·have hap : rowD natB ((f.blocks.take j).map (renB h)) ++ [(.agg [.fv .nil, .own 5 (steps (renL h bl)), .fv (.agg [.int .i64 tk, .int .i64 ra, .int .i64 tto, .int .i64 te])] : DV)] = rowD natB ((f.blocks.take (j + 1)).map (renB h)) := by rw [hnx]; simp only [rowD, List.map_append, List.map_cons, List.map_nil]; rw [hnb]
      repeat' first | refine g4 @hdk @hap @fvs_aggc @hbb ?_ | refine d4 @hdk @hap @fvs_aggc @hbb ?_ | refine j4 @hdk @hap @fvs_aggc @hbb (fun hg hgo => ?_) fun hg hgo => ?_ | refine ek_ret ?_ | refine ek_norm ?_ | refine ⟨by omega, ?_⟩ | rfl | trivial | intro _
      refine rd_norm _ (sub_of ?_) (m - 1) (by omega) ⟨j + 1, by omega, .inr ⟨by omega, rfl⟩⟩
      skip
      exact dn
  ·have hd : decide ((j : Int) < (f.blocks.length : Int)) = false := by rw [decide_eq_false_iff_not]; omega
   rcases hst with ⟨rfl, rfl⟩ | ⟨hj0, rfl⟩
   ·exfalso; have := List.length_pos_iff.2 hR.ne; omega
   ·have hall : (f.blocks.take j).map (renB h) = (renF h f).blocks := by rw [List.take_of_length_le (by omega)]; rfl
    rw [hall]
    repeat' first | refine g1 @hd ?_ | refine d1 @hd ?_ | refine j1 @hd (fun hg hgo => ?_) fun hg hgo => ?_ | refine ek_ret ?_ | refine ek_norm ?_ | refine ⟨by omega, ?_⟩ | rfl | trivial | intro _
theorem v_Renamed_spec_no (f : FnD) (h : List Int) (hok : f.ok) (hhl : h.length < 1073741824) (hb0 : (plainB f && homesB h (clashF f) f.values.toNat) = false) : C2 CC F_spec_Renamed [.fv (fnF f), .fv (intR h)] (.tup [.fv (.agg [.nil, .int .i64 0]), bv false]) [] := by
 have kh := v_HomesOk_spec f h hok hhl
 rw [hb0] at kh
 refine cw (keepF Tryz.f5) Tryz.f5 false ?_
 repeat' first | refine ck_intro (by first | exact kh) ?_ ?_ | refine g0 ?_ | refine d0 ?_ | refine j0 (fun hg hgo => ?_) fun hg hgo => ?_ | refine ek_ret ?_ | refine ek_norm ?_ | refine ⟨by omega, ?_⟩ | rfl | trivial | intro _
theorem v_TermUses_no (x : TermD) (h : trmUses x = []) : C2 CC F_impl_TermUses [.fv (termF x)] (.fv .nil) [] := v_TermUses_none x h
theorem v_renamedIns (h : List Int) (x : StepD) (hx : InR h x) (hl : h.length ≤ 100) : C2 CC F_impl_renamedIns [sF x, .fv (intR h)] (sF (renI h x)) [] := by
 obtain ⟨op, r, a, b, n⟩ := x
 have kA := v_hasA op
 have kB := v_hasB op
 have kD := v_hasD op
 cases hM : makesB op with
 | true =>
  rw [hM] at kD
  obtain ⟨rN, hr1, hr2⟩ := hx.r hM
  simp only at hr1
  subst hr1
  have hrm : rN < (h.map (FV.int .i64)).length := by rw [List.length_map]; exact hr2
  cases hA : hasA op with
  | true =>
   rw [hA] at kA
   obtain ⟨aN, ha1, ha2⟩ := hx.a hA
   simp only at ha1
   subst ha1
   have ham : aN < (h.map (FV.int .i64)).length := by rw [List.length_map]; exact ha2
   cases hB : hasBb op with
   | true =>
    rw [hB] at kB
    obtain ⟨bN, hb1, hb2⟩ := hx.b hB
    simp only at hb1
    subst hb1
    have hbm : bN < (h.map (FV.int .i64)).length := by rw [List.length_map]; exact hb2
    have hy : renI h ⟨op, (rN : Int), (aN : Int), (bN : Int), n⟩ = ⟨op, h[rN], h[aN], h[bN], n⟩ := by
     unfold renI; simp only [hM, hA, hB, if_true, Bool.false_eq_true, if_false]
     rw [hm_at hr2, hm_at ha2, hm_at hb2]
    rw [hy]
    refine cw (keepF Tryz.f21) Tryz.f21 false ?_
    repeat' first | refine ck_intro (by first | exact kA | exact kB | exact kD) ?_ ?_ | refine g0 ?_ | refine d0 ?_ | refine j0 (fun hg hgo => ?_) fun hg hgo => ?_ | refine ek_ret ?_ | refine ek_norm ?_ | refine ⟨by omega, ?_⟩ | rfl | trivial | intro _
   | false =>
    rw [hB] at kB
    have hy : renI h ⟨op, (rN : Int), (aN : Int), b, n⟩ = ⟨op, h[rN], h[aN], b, n⟩ := by
     unfold renI; simp only [hM, hA, hB, if_true, Bool.false_eq_true, if_false]
     rw [hm_at hr2, hm_at ha2]
    rw [hy]
    refine cw (keepF Tryz.f21) Tryz.f21 false ?_
    repeat' first | refine ck_intro (by first | exact kA | exact kB | exact kD) ?_ ?_ | refine g0 ?_ | refine d0 ?_ | refine j0 (fun hg hgo => ?_) fun hg hgo => ?_ | refine ek_ret ?_ | refine ek_norm ?_ | refine ⟨by omega, ?_⟩ | rfl | trivial | intro _
  | false =>
   rw [hA] at kA
   have hB := B_A hA
   rw [hB] at kB
   have hy : renI h ⟨op, (rN : Int), a, b, n⟩ = ⟨op, h[rN], a, b, n⟩ := by
    unfold renI; simp only [hM, hA, hB, if_true, Bool.false_eq_true, if_false]
    rw [hm_at hr2]
   rw [hy]
   refine cw (keepF Tryz.f21) Tryz.f21 false ?_
   repeat' first | refine ck_intro (by first | exact kA | exact kB | exact kD) ?_ ?_ | refine g0 ?_ | refine d0 ?_ | refine j0 (fun hg hgo => ?_) fun hg hgo => ?_ | refine ek_ret ?_ | refine ek_norm ?_ | refine ⟨by omega, ?_⟩ | rfl | trivial | intro _
 | false =>
  rw [hM] at kD
  cases hA : hasA op with
  | true =>
   rw [hA] at kA
   obtain ⟨aN, ha1, ha2⟩ := hx.a hA
   simp only at ha1
   subst ha1
   have ham : aN < (h.map (FV.int .i64)).length := by rw [List.length_map]; exact ha2
   cases hB : hasBb op with
   | true =>
    rw [hB] at kB
    obtain ⟨bN, hb1, hb2⟩ := hx.b hB
    simp only at hb1
    subst hb1
    have hbm : bN < (h.map (FV.int .i64)).length := by rw [List.length_map]; exact hb2
    have hy : renI h ⟨op, r, (aN : Int), (bN : Int), n⟩ = ⟨op, r, h[aN], h[bN], n⟩ := by
     unfold renI; simp only [hM, hA, hB, if_true, Bool.false_eq_true, if_false]
     rw [hm_at ha2, hm_at hb2]
    rw [hy]
    refine cw (keepF Tryz.f21) Tryz.f21 false ?_
    repeat' first | refine ck_intro (by first | exact kA | exact kB | exact kD) ?_ ?_ | refine g0 ?_ | refine d0 ?_ | refine j0 (fun hg hgo => ?_) fun hg hgo => ?_ | refine ek_ret ?_ | refine ek_norm ?_ | refine ⟨by omega, ?_⟩ | rfl | trivial | intro _
   | false =>
    rw [hB] at kB
    have hy : renI h ⟨op, r, (aN : Int), b, n⟩ = ⟨op, r, h[aN], b, n⟩ := by
     unfold renI; simp only [hM, hA, hB, if_true, Bool.false_eq_true, if_false]
     rw [hm_at ha2]
    rw [hy]
    refine cw (keepF Tryz.f21) Tryz.f21 false ?_
    repeat' first | refine ck_intro (by first | exact kA | exact kB | exact kD) ?_ ?_ | refine g0 ?_ | refine d0 ?_ | refine j0 (fun hg hgo => ?_) fun hg hgo => ?_ | refine ek_ret ?_ | refine ek_norm ?_ | refine ⟨by omega, ?_⟩ | rfl | trivial | intro _
  | false =>
   rw [hA] at kA
   have hB := B_A hA
   rw [hB] at kB
   have hy : renI h ⟨op, r, a, b, n⟩ = ⟨op, r, a, b, n⟩ := by
    unfold renI; simp only [hM, hA, hB, Bool.false_eq_true, if_false]
   rw [hy]
   refine cw (keepF Tryz.f21) Tryz.f21 false ?_
   repeat' first | refine ck_intro (by first | exact kA | exact kB | exact kD) ?_ ?_ | refine g0 ?_ | refine d0 ?_ | refine j0 (fun hg hgo => ?_) fun hg hgo => ?_ | refine ek_ret ?_ | refine ek_norm ?_ | refine ⟨by omega, ?_⟩ | rfl | trivial | intro _
theorem v_Renamed (f : FnD) (h : List Int) (hok : f.ok) (hhl : h.length < 1073741824) (hb0 : (plainB f && homesB h (clashF f) f.values.toNat) = true) : C2 CC F_impl_Renamed [.fv (fnF f), .fv (intR h)] (.tup [.agg [.own 6 (rowD natB (renF h f).blocks), iv 40], bv true]) [] := by
 have hpl : plainB f = true := by rw [Bool.and_eq_true] at hb0; exact hb0.1
 have hR := rn_of hpl (by rw [Bool.and_eq_true] at hb0; exact hb0.2)
 have kh := v_HomesOk f h hok hhl
 rw [hb0] at kh
 have hcnt := hR.cnt
 have hhl80 := hR.len
 refine cw (keepF Tryz.f8) Tryz.f8 false ?_
 repeat' first | refine ck_intro (by first | exact kh) ?_ ?_ | refine g0 ?_ | refine d0 ?_ | refine j0 (fun hg hgo => ?_) fun hg hgo => ?_ | refine ek_ret ?_ | refine ek_norm ?_ | refine ⟨by omega, ?_⟩ | rfl | trivial | intro _
 refine pw_loop (fun m st => ∃ j : Nat, j + m = f.blocks.length ∧ ((j = 0 ∧ st = [(4, .box (.fv (.agg [.nil, .int .i64 0]))), (1, .fv (intR h)), (20, .fv (.row 6 (f.blocks.map blockF))), (21, iv f.blocks.length), (22, iv (0 : Nat)), (6, .box (.fv (.agg [.nil, .int .i64 40])))]) ∨ (0 < j ∧ st = [(4, .box (.fv (.agg [.nil, .int .i64 0]))), (1, .fv (intR h)), (20, .fv (.row 6 (f.blocks.map blockF))), (21, iv f.blocks.length), (22, iv j), (6, .box (.agg [.own 6 (rowD natB ((f.blocks.take j).map (renB h))), iv 40]))]))) f.blocks.length [(4, .box (.fv (.agg [.nil, .int .i64 0]))), (1, .fv (intR h)), (20, .fv (.row 6 (f.blocks.map blockF))), (21, iv f.blocks.length), (22, iv (0 : Nat)), (6, .box (.fv (.agg [.nil, .int .i64 40])))] (sub_of ?_) ⟨0, by omega, .inl ⟨rfl, rfl⟩⟩ ?_
 ·exact dn
 ·rintro m st ⟨j, hj, hst⟩
  by_cases hlt : j < f.blocks.length
  ·have hd : decide ((j : Int) < (f.blocks.length : Int)) = true := by rw [decide_eq_true_eq]; omega
   have hml : j < (f.blocks.map blockF).length := by rw [List.length_map]; exact hlt
   have hlist := hR.list j hlt
   have hins := hR.ins j hlt
   have htr := hR.trm j hlt
   have hnx : (f.blocks.take (j + 1)).map (renB h) = (f.blocks.take j).map (renB h) ++ [renB h f.blocks[j]] := by
    rw [List.take_succ_eq_append_getElem hlt, List.map_append]; rfl
   have htl : ((f.blocks.take j).map (renB h)).length ≤ 16 := by rw [List.length_map, List.length_take]; omega
   have htk : (f.blocks.take j).length ≤ 16 := by rw [List.length_take]; omega
   have hst2 : ∃ ob : DV, st = [(4, .box (.fv (.agg [.nil, .int .i64 0]))), (1, .fv (intR h)), (20, .fv (.row 6 (f.blocks.map blockF))), (21, iv f.blocks.length), (22, iv j), (6, ob)] ∧ ((j = 0 ∧ ob = .box (.fv (.agg [.nil, .int .i64 40]))) ∨ (0 < j ∧ ob = .box (.agg [.own 6 (rowD natB ((f.blocks.take j).map (renB h))), iv 40]))) := by
    rcases hst with ⟨rfl, rfl⟩ | ⟨h0, rfl⟩
    ·exact ⟨_, rfl, .inl ⟨rfl, rfl⟩⟩
    ·exact ⟨_, rfl, .inr ⟨h0, rfl⟩⟩
   clear hst
   obtain ⟨ob, rfl, hob⟩ := hst2
   have hobn : noRef ob = true := by
    rcases hob with ⟨_, rfl⟩ | ⟨_, rfl⟩
    ·rfl
    ·rw [nr_box, nr_agg, nrs_cons, nr_own, nrs_natB]; rfl
   have hobk : ∀ a, kl a ob = ob := fun a => kl_noRef a hobn
   generalize hbb : f.blocks[j] = bb at hlist hins htr hnx
   obtain ⟨bp, bl, tk, ta, tto, te⟩ := bb
   simp only at hlist hins htr
   repeat' first | refine g4 @hd @hobn @hobk @hbb ?_ | refine d4 @hd @hobn @hobk @hbb ?_ | refine j4 @hd @hobn @hobk @hbb (fun hg hgo => ?_) fun hg hgo => ?_ | refine ek_ret ?_ | refine ek_norm ?_ | refine ⟨by omega, ?_⟩ | rfl | trivial | intro _
   refine pw_loop (fun m st => ∃ k : Nat, k + m = bl.length ∧ ((renL h (bl.take k) = [] ∧ st = [(4, .box (.fv (.agg [.nil, .int .i64 0]))), (1, .fv (intR h)), (20, .fv (.row 6 (f.blocks.map blockF))), (21, iv f.blocks.length), (22, iv j), (6, ob), (8, .box (.fv (blockF (⟨bp, bl, ⟨tk, ta, tto, te⟩⟩ : BlockD)))), (30, .fv (.row 5 (bl.map stF))), (31, iv bl.length), (32, iv k), (9, .box (.fv (.agg [.nil, .nil, termF (⟨tk, ta, tto, te⟩ : TermD)])))]) ∨ (renL h (bl.take k) ≠ [] ∧ st = [(4, .box (.fv (.agg [.nil, .int .i64 0]))), (1, .fv (intR h)), (20, .fv (.row 6 (f.blocks.map blockF))), (21, iv f.blocks.length), (22, iv j), (6, ob), (8, .box (.fv (blockF (⟨bp, bl, ⟨tk, ta, tto, te⟩⟩ : BlockD)))), (30, .fv (.row 5 (bl.map stF))), (31, iv bl.length), (32, iv k), (9, .box (.agg [.fv .nil, .own 5 (steps (renL h (bl.take k))), .fv (termF (⟨tk, ta, tto, te⟩ : TermD))]))]))) bl.length [(4, .box (.fv (.agg [.nil, .int .i64 0]))), (1, .fv (intR h)), (20, .fv (.row 6 (f.blocks.map blockF))), (21, iv f.blocks.length), (22, iv j), (6, ob), (8, .box (.fv (blockF (⟨bp, bl, ⟨tk, ta, tto, te⟩⟩ : BlockD)))), (30, .fv (.row 5 (bl.map stF))), (31, iv bl.length), (32, iv (0 : Nat)), (9, .box (.fv (.agg [.nil, .nil, termF (⟨tk, ta, tto, te⟩ : TermD)])))] (sub_of ?_) ⟨0, by omega, .inl ⟨rfl, rfl⟩⟩ ?_
   ·repeat' first | refine g2 @hobn @hobk ?_ | refine d2 @hobn @hobk ?_ | refine j2 @hobn @hobk (fun hg hgo => ?_) fun hg hgo => ?_ | refine ek_ret ?_ | refine ek_norm ?_ | refine ⟨by omega, ?_⟩ | rfl | trivial | intro _
   ·rintro m1 st ⟨k, hk, hst⟩
    by_cases hlk : k < bl.length
    ·have hdk : decide ((k : Int) < (bl.length : Int)) = true := by rw [decide_eq_true_eq]; omega
     have hmk : k < (bl.map stF).length := by rw [List.length_map]; exact hlk
     have hsn := renL_snoc (h := h) hlk
     have hix := hins bl[k] (List.getElem_mem hlk)
     have hrl := @renL_len h (bl.take k)
     rw [List.length_take] at hrl
     have kr := v_renamedIns h bl[k] hix (by omega)
     generalize hy : renI h bl[k] = y at *
     obtain ⟨op, r, a, b, n⟩ := y
     cases hkp : keptB (⟨op, r, a, b, n⟩ : StepD) with
     | false =>
      have hk0 : op = 25 ∧ r = a := by simpa [keptB] using hkp
      have e1 : (op != 25) = false := by simp [hk0.1]
      have e2 : (r != a) = false := by simp [hk0.2]
      rw [if_neg (by rw [hkp]; decide), List.append_nil] at hsn
      rcases hst with ⟨hl0, rfl⟩ | ⟨hl0, rfl⟩
      ·repeat' first | refine ck_intro (by first | exact kr) ?_ ?_ | refine g5 @hdk @hobn @hobk @e1 @e2 ?_ | refine d5 @hdk @hobn @hobk @e1 @e2 ?_ | refine j5 @hdk @hobn @hobk @e1 @e2 (fun hg hgo => ?_) fun hg hgo => ?_ | refine ek_ret ?_ | refine ek_norm ?_ | refine ⟨by omega, ?_⟩ | rfl | trivial | intro _
       refine rd_norm _ (sub_of ?_) (m1 - 1) (by omega) ⟨k + 1, by omega, .inl ⟨by rw [hsn]; exact hl0, rfl⟩⟩
       repeat' first | refine g2 @hobn @hobk ?_ | refine d2 @hobn @hobk ?_ | refine j2 @hobn @hobk (fun hg hgo => ?_) fun hg hgo => ?_ | refine ek_ret ?_ | refine ek_norm ?_ | refine ⟨by omega, ?_⟩ | rfl | trivial | intro _
      ·repeat' first | refine ck_intro (by first | exact kr) ?_ ?_ | refine g5 @hdk @hobn @hobk @e1 @e2 ?_ | refine d5 @hdk @hobn @hobk @e1 @e2 ?_ | refine j5 @hdk @hobn @hobk @e1 @e2 (fun hg hgo => ?_) fun hg hgo => ?_ | refine ek_ret ?_ | refine ek_norm ?_ | refine ⟨by omega, ?_⟩ | rfl | trivial | intro _
       refine rd_norm [(4, .box (.fv (.agg [.nil, .int .i64 0]))), (1, .fv (intR h)), (20, .fv (.row 6 (f.blocks.map blockF))), (21, iv f.blocks.length), (22, iv j), (6, ob), (8, .box (.fv (blockF (⟨bp, bl, ⟨tk, ta, tto, te⟩⟩ : BlockD)))), (30, .fv (.row 5 (bl.map stF))), (31, iv bl.length), (32, iv (k + 1 : Nat)), (9, .box (.agg [.fv .nil, .own 5 (steps (renL h (bl.take k))), .fv (termF (⟨tk, ta, tto, te⟩ : TermD))]))] (sub_of ?_) (m1 - 1) (by omega) ⟨k + 1, by omega, .inr ⟨by rw [hsn]; exact hl0, by rw [hsn]⟩⟩
       repeat' first | refine g2 @hobn @hobk ?_ | refine d2 @hobn @hobk ?_ | refine j2 @hobn @hobk (fun hg hgo => ?_) fun hg hgo => ?_ | refine ek_ret ?_ | refine ek_norm ?_ | refine ⟨by omega, ?_⟩ | rfl | trivial | intro _
     | true =>
      by_cases h25 : op = 25
      ·have e1 : (op != 25) = false := by simp [h25]
       have e2 : (r != a) = true := by simpa [keptB, h25] using hkp
       rw [if_pos hkp] at hsn
       rcases hst with ⟨hl0, rfl⟩ | ⟨hl0, rfl⟩
       ·rw [hl0, List.nil_append] at hsn
        have hap : [DV.fv (.agg [.int .i64 op, .int .i64 r, .int .i64 a, .int .i64 b, .int .i64 n])] = steps (renL h (bl.take (k + 1))) := by rw [hsn]; rfl
        repeat' first | refine ck_intro (by first | exact kr) ?_ ?_ | refine g5 @hdk @hobn @hobk @e1 @e2 ?_ | refine d5 @hdk @hobn @hobk @e1 @e2 ?_ | refine j5 @hdk @hobn @hobk @e1 @e2 (fun hg hgo => ?_) fun hg hgo => ?_ | refine ek_ret ?_ | refine ek_norm ?_ | refine ⟨by omega, ?_⟩ | rfl | trivial | intro _
        refine rd_norm _ (sub_of ?_) (m1 - 1) (by omega) ⟨k + 1, by omega, .inr ⟨by rw [hsn]; simp, rfl⟩⟩
        rw [← hap]
        repeat' first | refine g2 @hobn @hobk ?_ | refine d2 @hobn @hobk ?_ | refine j2 @hobn @hobk (fun hg hgo => ?_) fun hg hgo => ?_ | refine ek_ret ?_ | refine ek_norm ?_ | refine ⟨by omega, ?_⟩ | rfl | trivial | intro _
       ·have hap : steps (renL h (bl.take k)) ++ [DV.fv (.agg [.int .i64 op, .int .i64 r, .int .i64 a, .int .i64 b, .int .i64 n])] = steps (renL h (bl.take (k + 1))) := by rw [hsn]; unfold steps; simp
        repeat' first | refine ck_intro (by first | exact kr) ?_ ?_ | refine g6 @hdk @hobn @hobk @e1 @e2 @hap ?_ | refine d6 @hdk @hobn @hobk @e1 @e2 @hap ?_ | refine j6 @hdk @hobn @hobk @e1 @e2 @hap (fun hg hgo => ?_) fun hg hgo => ?_ | refine ek_ret ?_ | refine ek_norm ?_ | refine ⟨by omega, ?_⟩ | rfl | trivial | intro _
        refine rd_norm _ (sub_of ?_) (m1 - 1) (by omega) ⟨k + 1, by omega, .inr ⟨by rw [hsn]; simp, rfl⟩⟩
        skip
        repeat' first | refine g2 @hobn @hobk ?_ | refine d2 @hobn @hobk ?_ | refine j2 @hobn @hobk (fun hg hgo => ?_) fun hg hgo => ?_ | refine ek_ret ?_ | refine ek_norm ?_ | refine ⟨by omega, ?_⟩ | rfl | trivial | intro _
      ·have e1 : (op != 25) = true := by simpa using h25
       rw [if_pos hkp] at hsn
       rcases hst with ⟨hl0, rfl⟩ | ⟨hl0, rfl⟩
       ·rw [hl0, List.nil_append] at hsn
        have hap : [DV.fv (.agg [.int .i64 op, .int .i64 r, .int .i64 a, .int .i64 b, .int .i64 n])] = steps (renL h (bl.take (k + 1))) := by rw [hsn]; rfl
        repeat' first | refine ck_intro (by first | exact kr) ?_ ?_ | refine g4 @hdk @hobn @hobk @e1 ?_ | refine d4 @hdk @hobn @hobk @e1 ?_ | refine j4 @hdk @hobn @hobk @e1 (fun hg hgo => ?_) fun hg hgo => ?_ | refine ek_ret ?_ | refine ek_norm ?_ | refine ⟨by omega, ?_⟩ | rfl | trivial | intro _
        refine rd_norm _ (sub_of ?_) (m1 - 1) (by omega) ⟨k + 1, by omega, .inr ⟨by rw [hsn]; simp, rfl⟩⟩
        rw [← hap]
        repeat' first | refine g2 @hobn @hobk ?_ | refine d2 @hobn @hobk ?_ | refine j2 @hobn @hobk (fun hg hgo => ?_) fun hg hgo => ?_ | refine ek_ret ?_ | refine ek_norm ?_ | refine ⟨by omega, ?_⟩ | rfl | trivial | intro _
       ·have hap : steps (renL h (bl.take k)) ++ [DV.fv (.agg [.int .i64 op, .int .i64 r, .int .i64 a, .int .i64 b, .int .i64 n])] = steps (renL h (bl.take (k + 1))) := by rw [hsn]; unfold steps; simp
        repeat' first | refine ck_intro (by first | exact kr) ?_ ?_ | refine g5 @hdk @hobn @hobk @e1 @hap ?_ | refine d5 @hdk @hobn @hobk @e1 @hap ?_ | refine j5 @hdk @hobn @hobk @e1 @hap (fun hg hgo => ?_) fun hg hgo => ?_ | refine ek_ret ?_ | refine ek_norm ?_ | refine ⟨by omega, ?_⟩ | rfl | trivial | intro _
        refine rd_norm _ (sub_of ?_) (m1 - 1) (by omega) ⟨k + 1, by omega, .inr ⟨by rw [hsn]; simp, rfl⟩⟩
        skip
        repeat' first | refine g2 @hobn @hobk ?_ | refine d2 @hobn @hobk ?_ | refine j2 @hobn @hobk (fun hg hgo => ?_) fun hg hgo => ?_ | refine ek_ret ?_ | refine ek_norm ?_ | refine ⟨by omega, ?_⟩ | rfl | trivial | intro _
    ·have hdk : decide ((k : Int) < (bl.length : Int)) = false := by rw [decide_eq_false_iff_not]; omega
     rw [List.take_of_length_le (by omega : bl.length ≤ k)] at hst
     have hrl := @renL_len h bl
     by_cases htu : trmUses (⟨tk, ta, tto, te⟩ : TermD) = []
     ·have kt := v_TermUses_no (⟨tk, ta, tto, te⟩ : TermD) htu
      have hrt : renT h (⟨tk, ta, tto, te⟩ : TermD) = ⟨tk, ta, tto, te⟩ := by unfold renT; rw [if_pos htu]
      rcases hst with ⟨hl0, rfl⟩ | ⟨hl0, rfl⟩
      ·have hnb : natB (renB h (⟨bp, bl, ⟨tk, ta, tto, te⟩⟩ : BlockD)) = .fv (.agg [.nil, .nil, termF (renT h (⟨tk, ta, tto, te⟩ : TermD))]) := by unfold natB renB; simp only; rw [if_pos hl0]
       rw [hrt] at hnb
       rcases hob with ⟨rfl, rfl⟩ | ⟨hj0, rfl⟩
       ·have hap : [(.fv (.agg [.nil, .nil, termF ⟨tk, ta, tto, te⟩]) : DV)] = rowD natB ((f.blocks.take (0 + 1)).map (renB h)) := by rw [hnx, List.take_zero]; simp only [List.map_nil, List.nil_append, rowD, List.map_cons]; rw [hnb]
        repeat' first | refine ck_intro (by first | exact kt) ?_ ?_ | refine g1 @hdk ?_ | refine d1 @hdk ?_ | refine j1 @hdk (fun hg hgo => ?_) fun hg hgo => ?_ | refine ek_ret ?_ | refine ek_norm ?_ | refine ⟨by omega, ?_⟩ | rfl | trivial | intro _
        refine rd_norm _ (sub_of ?_) (m - 1) (by omega) ⟨0 + 1, by omega, .inr ⟨by omega, rfl⟩⟩
        rw [← hap]
        exact dn
       ·have hap : rowD natB ((f.blocks.take j).map (renB h)) ++ [(.fv (.agg [.nil, .nil, termF ⟨tk, ta, tto, te⟩]) : DV)] = rowD natB ((f.blocks.take (j + 1)).map (renB h)) := by rw [hnx]; simp only [rowD, List.map_append, List.map_cons, List.map_nil]; rw [hnb]
        repeat' first | refine ck_intro (by first | exact kt) ?_ ?_ | refine g2 @hdk @hap ?_ | refine d2 @hdk @hap ?_ | refine j2 @hdk @hap (fun hg hgo => ?_) fun hg hgo => ?_ | refine ek_ret ?_ | refine ek_norm ?_ | refine ⟨by omega, ?_⟩ | rfl | trivial | intro _
        refine rd_norm _ (sub_of ?_) (m - 1) (by omega) ⟨j + 1, by omega, .inr ⟨by omega, rfl⟩⟩
        skip
        exact dn
      ·have hnb : natB (renB h (⟨bp, bl, ⟨tk, ta, tto, te⟩⟩ : BlockD)) = .agg [.fv .nil, .own 5 (steps (renL h bl)), .fv (termF (renT h (⟨tk, ta, tto, te⟩ : TermD)))] := by unfold natB renB; simp only; rw [if_neg hl0]
       rw [hrt] at hnb
       rcases hob with ⟨rfl, rfl⟩ | ⟨hj0, rfl⟩
       ·have hap : [(.agg [.fv .nil, .own 5 (steps (renL h bl)), .fv (termF ⟨tk, ta, tto, te⟩)] : DV)] = rowD natB ((f.blocks.take (0 + 1)).map (renB h)) := by rw [hnx, List.take_zero]; simp only [List.map_nil, List.nil_append, rowD, List.map_cons]; rw [hnb]
        repeat' first | refine ck_intro (by first | exact kt) ?_ ?_ | refine g2 @hdk @fvs_aggc ?_ | refine d2 @hdk @fvs_aggc ?_ | refine j2 @hdk @fvs_aggc (fun hg hgo => ?_) fun hg hgo => ?_ | refine ek_ret ?_ | refine ek_norm ?_ | refine ⟨by omega, ?_⟩ | rfl | trivial | intro _
        refine rd_norm _ (sub_of ?_) (m - 1) (by omega) ⟨0 + 1, by omega, .inr ⟨by omega, rfl⟩⟩
        rw [← hap]
        exact dn
       ·have hap : rowD natB ((f.blocks.take j).map (renB h)) ++ [(.agg [.fv .nil, .own 5 (steps (renL h bl)), .fv (termF ⟨tk, ta, tto, te⟩)] : DV)] = rowD natB ((f.blocks.take (j + 1)).map (renB h)) := by rw [hnx]; simp only [rowD, List.map_append, List.map_cons, List.map_nil]; rw [hnb]
        repeat' first | refine ck_intro (by first | exact kt) ?_ ?_ | refine g3 @hdk @hap @fvs_aggc ?_ | refine d3 @hdk @hap @fvs_aggc ?_ | refine j3 @hdk @hap @fvs_aggc (fun hg hgo => ?_) fun hg hgo => ?_ | refine ek_ret ?_ | refine ek_norm ?_ | refine ⟨by omega, ?_⟩ | rfl | trivial | intro _
        refine rd_norm _ (sub_of ?_) (m - 1) (by omega) ⟨j + 1, by omega, .inr ⟨by omega, rfl⟩⟩
        skip
        exact dn
     ·have kt := v_TermUses (⟨tk, ta, tto, te⟩ : TermD) htu
      obtain ⟨tN, hta, ht2⟩ := htr htu
      have htm : tN < (h.map (FV.int .i64)).length := by rw [List.length_map]; exact ht2
      have hpos : decide (((trmUses (⟨tk, ta, tto, te⟩ : TermD)).length : Int) > 0) = true := by
       rw [decide_eq_true_eq]; have := List.length_pos_iff.2 htu; omega
      have htl2 : (trmUses (⟨tk, ta, tto, te⟩ : TermD)).length ≤ 1 := by unfold trmUses; split <;> simp
      have hrt : renT h (⟨tk, ta, tto, te⟩ : TermD) = ⟨tk, h[tN], tto, te⟩ := by unfold renT; rw [if_neg htu]; show TermD.mk tk (hm h ta) tto te = _; rw [hta, hm_at ht2]
      rw [hta] at kt hpos htl2
      rcases hst with ⟨hl0, rfl⟩ | ⟨hl0, rfl⟩
      ·have hnb : natB (renB h (⟨bp, bl, ⟨tk, ta, tto, te⟩⟩ : BlockD)) = .fv (.agg [.nil, .nil, termF (renT h (⟨tk, ta, tto, te⟩ : TermD))]) := by unfold natB renB; simp only; rw [if_pos hl0]
       rw [hrt] at hnb
       rcases hob with ⟨rfl, rfl⟩ | ⟨hj0, rfl⟩
       ·have hap : [(.fv (.agg [.nil, .nil, termF ⟨tk, h[tN], tto, te⟩]) : DV)] = rowD natB ((f.blocks.take (0 + 1)).map (renB h)) := by rw [hnx, List.take_zero]; simp only [List.map_nil, List.nil_append, rowD, List.map_cons]; rw [hnb]
        repeat' first | refine ck_intro (by first | exact kt) ?_ ?_ | refine g3 @hdk @hpos @hta ?_ | refine d3 @hdk @hpos @hta ?_ | refine j3 @hdk @hpos @hta (fun hg hgo => ?_) fun hg hgo => ?_ | refine ek_ret ?_ | refine ek_norm ?_ | refine ⟨by omega, ?_⟩ | rfl | trivial | intro _
        refine rd_norm _ (sub_of ?_) (m - 1) (by omega) ⟨0 + 1, by omega, .inr ⟨by omega, rfl⟩⟩
        rw [← hap]
        exact dn
       ·have hap : rowD natB ((f.blocks.take j).map (renB h)) ++ [(.fv (.agg [.nil, .nil, termF ⟨tk, h[tN], tto, te⟩]) : DV)] = rowD natB ((f.blocks.take (j + 1)).map (renB h)) := by rw [hnx]; simp only [rowD, List.map_append, List.map_cons, List.map_nil]; rw [hnb]
        repeat' first | refine ck_intro (by first | exact kt) ?_ ?_ | refine g4 @hdk @hap @hpos @hta ?_ | refine d4 @hdk @hap @hpos @hta ?_ | refine j4 @hdk @hap @hpos @hta (fun hg hgo => ?_) fun hg hgo => ?_ | refine ek_ret ?_ | refine ek_norm ?_ | refine ⟨by omega, ?_⟩ | rfl | trivial | intro _
        refine rd_norm _ (sub_of ?_) (m - 1) (by omega) ⟨j + 1, by omega, .inr ⟨by omega, rfl⟩⟩
        skip
        exact dn
      ·have hnb : natB (renB h (⟨bp, bl, ⟨tk, ta, tto, te⟩⟩ : BlockD)) = .agg [.fv .nil, .own 5 (steps (renL h bl)), .fv (termF (renT h (⟨tk, ta, tto, te⟩ : TermD)))] := by unfold natB renB; simp only; rw [if_neg hl0]
       rw [hrt] at hnb
       rcases hob with ⟨rfl, rfl⟩ | ⟨hj0, rfl⟩
       ·have hap : [(.agg [.fv .nil, .own 5 (steps (renL h bl)), .fv (termF ⟨tk, h[tN], tto, te⟩)] : DV)] = rowD natB ((f.blocks.take (0 + 1)).map (renB h)) := by rw [hnx, List.take_zero]; simp only [List.map_nil, List.nil_append, rowD, List.map_cons]; rw [hnb]
        repeat' first | refine ck_intro (by first | exact kt) ?_ ?_ | refine g4 @hdk @fvs_aggc @hpos @hta ?_ | refine d4 @hdk @fvs_aggc @hpos @hta ?_ | refine j4 @hdk @fvs_aggc @hpos @hta (fun hg hgo => ?_) fun hg hgo => ?_ | refine ek_ret ?_ | refine ek_norm ?_ | refine ⟨by omega, ?_⟩ | rfl | trivial | intro _
        refine rd_norm _ (sub_of ?_) (m - 1) (by omega) ⟨0 + 1, by omega, .inr ⟨by omega, rfl⟩⟩
        rw [← hap]
        exact dn
       ·have hap : rowD natB ((f.blocks.take j).map (renB h)) ++ [(.agg [.fv .nil, .own 5 (steps (renL h bl)), .fv (termF ⟨tk, h[tN], tto, te⟩)] : DV)] = rowD natB ((f.blocks.take (j + 1)).map (renB h)) := by rw [hnx]; simp only [rowD, List.map_append, List.map_cons, List.map_nil]; rw [hnb]
        repeat' first | refine ck_intro (by first | exact kt) ?_ ?_ | refine g5 @hdk @hap @fvs_aggc @hpos @hta ?_ | refine d5 @hdk @hap @fvs_aggc @hpos @hta ?_ | refine j5 @hdk @hap @fvs_aggc @hpos @hta (fun hg hgo => ?_) fun hg hgo => ?_ | refine ek_ret ?_ | refine ek_norm ?_ | refine ⟨by omega, ?_⟩ | rfl | trivial | intro _
        refine rd_norm _ (sub_of ?_) (m - 1) (by omega) ⟨j + 1, by omega, .inr ⟨by omega, rfl⟩⟩
        skip
        exact dn
  ·have hd : decide ((j : Int) < (f.blocks.length : Int)) = false := by rw [decide_eq_false_iff_not]; omega
   rcases hst with ⟨rfl, rfl⟩ | ⟨hj0, rfl⟩
   ·exfalso; have := List.length_pos_iff.2 hR.ne; omega
   ·have hall : (f.blocks.take j).map (renB h) = (renF h f).blocks := by rw [List.take_of_length_le (by omega)]; rfl
    rw [hall]
    repeat' first | refine g1 @hd ?_ | refine d1 @hd ?_ | refine j1 @hd (fun hg hgo => ?_) fun hg hgo => ?_ | refine ek_ret ?_ | refine ek_norm ?_ | refine ⟨by omega, ?_⟩ | rfl | trivial | intro _
theorem v_Renamed_no (f : FnD) (h : List Int) (hok : f.ok) (hhl : h.length < 1073741824) (hb0 : (plainB f && homesB h (clashF f) f.values.toNat) = false) : C2 CC F_impl_Renamed [.fv (fnF f), .fv (intR h)] (.tup [.fv (.agg [.nil, .int .i64 0]), bv false]) [] := by
 have kh := v_HomesOk f h hok hhl
 rw [hb0] at kh
 refine cw (keepF Tryz.f8) Tryz.f8 false ?_
 repeat' first | refine ck_intro (by first | exact kh) ?_ ?_ | refine g0 ?_ | refine d0 ?_ | refine j0 (fun hg hgo => ?_) fun hg hgo => ?_ | refine ek_ret ?_ | refine ek_norm ?_ | refine ⟨by omega, ?_⟩ | rfl | trivial | intro _
theorem v_markArm0 (k : Int) : C2 CC F_laws_markArmS [.fv (.row 2 []), iv k] (iv k) [] := by
 refine cw (keepF Tryz.f66) Tryz.f66 false ?_
 repeat' first | refine pw_unroll ?_ | refine g0 ?_ | refine d0 ?_ | refine j0 (fun hg hgo => ?_) fun hg hgo => ?_ | refine ek_ret ?_ | refine ek_norm ?_ | refine ⟨by omega, ?_⟩ | rfl | trivial | intro _
theorem v_markPhi0 (k : Int) : C2 CC F_laws_markPhiS [.fv (.row 2 []), iv k] (iv k) [] := by
 refine cw (keepF Tryz.f40) Tryz.f40 false ?_
 repeat' first | refine pw_unroll ?_ | refine g0 ?_ | refine d0 ?_ | refine j0 (fun hg hgo => ?_) fun hg hgo => ?_ | refine ek_ret ?_ | refine ek_norm ?_ | refine ⟨by omega, ?_⟩ | rfl | trivial | intro _
theorem v_markIns0 (k : Int) : C2 CC F_laws_markInsS [.fv (.row 5 []), iv k] (iv k) [] := by
 refine cw (keepF Tryz.f41) Tryz.f41 false ?_
 repeat' first | refine pw_unroll ?_ | refine g0 ?_ | refine d0 ?_ | refine j0 (fun hg hgo => ?_) fun hg hgo => ?_ | refine ek_ret ?_ | refine ek_norm ?_ | refine ⟨by omega, ?_⟩ | rfl | trivial | intro _
theorem v_markBlock0 (k : Int) : C2 CC F_laws_markBlockS [.fv (.row 6 []), iv k] (iv k) [] := by
 refine cw (keepF Tryz.f24) Tryz.f24 false ?_
 repeat' first | refine pw_unroll ?_ | refine g0 ?_ | refine d0 ?_ | refine j0 (fun hg hgo => ?_) fun hg hgo => ?_ | refine ek_ret ?_ | refine ek_norm ?_ | refine ⟨by omega, ?_⟩ | rfl | trivial | intro _
theorem mkL_ne {α : Type} {c : α → Nat} {e : Int → α → α} {k : Int} {l : List α} (h : l ≠ []) : mkL c e k l ≠ [] := fun hh => h (List.length_eq_zero_iff.1 (by rw [← mk_len (c := c) (e := e) k l, hh]; rfl))
theorem v_markPhiSE (k : Int) (l : List PhiD) (hk : 0 ≤ k ∧ k + ctL ctP l < 1099511627776) (hn : l.length < 1073741824) (hb : ∀ x ∈ l, x.arms.length < 1073741824) : C2 CC F_laws_markPhiS [.own 2 (rowD phiE l), iv k] (iv (k + ctL ctP l)) [.own 2 (rowD phiE (mkL ctP mkP k l))] := by
 refine cw (keepF Tryz.f40) Tryz.f40 false ?_
 repeat' first | refine g0 ?_ | refine d0 ?_ | refine j0 (fun hg hgo => ?_) fun hg hgo => ?_ | refine ek_ret ?_ | refine ek_norm ?_ | refine ⟨by omega, ?_⟩ | rfl | trivial | intro _
 refine pw_loop (fun m st => ∃ j : Nat, j + m = l.length ∧ st = [(0, .hdr (1000000, []) 2 l.length), (1, iv (k + ctL ctP (l.take j))), (5, iv j), (1000000, .own 2 (rowD phiE (mkL ctP mkP k (l.take j) ++ l.drop j)))]) l.length [(0, .hdr (1000000, []) 2 l.length), (1, iv (k + ctL ctP (l.take 0))), (5, iv (0 : Nat)), (1000000, .own 2 (rowD phiE (mkL ctP mkP k (l.take 0) ++ l.drop 0)))] (sub_of ?_) ⟨0, by omega, rfl⟩ ?_
 ·have h0 : k + (ctL ctP (l.take 0) : Int) = k := by rw [List.take_zero]; exact Int.add_zero k
  rw [h0, List.take_zero, mkL, List.drop_zero, List.nil_append]
  exact dn
 ·rintro m st ⟨j, hj, rfl⟩
  by_cases hlt : j < l.length
  ·have hd : decide ((j : Int) < (l.length : Int)) = true := by rw [decide_eq_true_eq]; omega
   have hx := hb l[j] (List.getElem_mem hlt)
   have hct := ct_take (c := ctP) hlt
   have hcl := ct_le (c := ctP) (l := l) (j + 1)
   have hm := mk_take (c := ctP) (e := mkP) k hlt
   have hs : ∀ y : PhiD, (rowD phiE (mkL ctP mkP k (l.take j) ++ l.drop j)).set j (phiE y) = rowD phiE (mkL ctP mkP k (l.take j) ++ y :: l.drop (j + 1)) := fun y => row_set (mk_take_len hlt) hlt y
   have hg := row_get (o := phiE) (mk_take_len (c := ctP) (e := mkP) (k := k) hlt) hlt
   have hL : (rowD phiE (mkL ctP mkP k (l.take j) ++ l.drop j)).length = l.length := by rw [rowD_len, List.length_append, mk_take_len hlt, List.length_drop]; omega
   have hnr : noRefs (rowD phiE (mkL ctP mkP k (l.take j) ++ l.drop j)) = true := nrs_rowD fun x => nr_phiE
   have hm1 : rowD phiE (mkL ctP mkP k (l.take (j + 1)) ++ l.drop (j + 1)) = (rowD phiE (mkL ctP mkP k (l.take j) ++ l.drop j)).set j (phiE (mkP (k + (ctL ctP (l.take j) : Int)) l[j])) := by rw [hm, List.append_assoc, List.singleton_append, ← hs]
   clear hm
   generalize rowD phiE (mkL ctP mkP k (l.take j) ++ l.drop j) = L at hs hg hL hnr hm1
   rw [hct] at hcl
   have hk2 : k + (ctL ctP (l.take (j + 1)) : Int) = k + (ctL ctP (l.take j) : Int) + (ctP l[j] : Int) := by omega
   clear hct
   generalize hT : (ctL ctP (l.take j) : Int) = t at hcl hk2 hm1 ⊢
   have hjL : j < L.length := by omega
   have hss : ∀ d, (L.set j d)[j]? = some d := fun d => List.getElem?_set_self hjL
   have hctp : (ctP l[j] : Int) = 1 + (ctL ctA l[j].arms : Int) := by unfold ctP; omega
   by_cases hA : l[j].arms = []
   ·have e1 : phiE l[j] = .agg [iv l[j].d, .fv (.row 2 [])] := by unfold phiE; rw [hA]; rfl
    have e2 : phiE (mkP (k + t) l[j]) = .agg [iv (k + t), .fv (.row 2 [])] := by unfold phiE mkP; rw [hA]; rfl
    have hc0 : (ctP l[j] : Int) = 1 := by unfold ctP; rw [hA]; rfl
    rw [e1] at hg
    rw [e2] at hm1
    repeat' first | refine ck_intro (by first | exact v_markArm0 _) ?_ ?_ | refine g7 @hd @hL @hg @hnr @hss @List.set_set.{0} @List.length_set.{0} ?_ | refine d7 @hd @hL @hg @hnr @hss @List.set_set.{0} @List.length_set.{0} ?_ | refine j7 @hd @hL @hg @hnr @hss @List.set_set.{0} @List.length_set.{0} (fun hg hgo => ?_) fun hg hgo => ?_ | refine ek_ret ?_ | refine ek_norm ?_ | refine ⟨by omega, ?_⟩ | rfl | trivial | intro _
    refine rd_norm [(0, .hdr (1000000, []) 2 l.length), (1, iv (k + ctL ctP (l.take (j + 1)))), (5, iv (j + 1 : Nat)), (1000000, .own 2 (rowD phiE (mkL ctP mkP k (l.take (j + 1)) ++ l.drop (j + 1))))] (sub_of ?_) (m - 1) (by omega) ⟨j + 1, by omega, rfl⟩
    rw [hk2, hm1]
    rw [show k + t + (ctP l[j] : Int) = k + t + 1 by omega]
    exact dn
   ·have e1 : phiE l[j] = .agg [iv l[j].d, .own 2 (rowD armO l[j].arms)] := by unfold phiE; rw [rowE_ne hA]
    have e2 : phiE (mkP (k + t) l[j]) = .agg [iv (k + t), .own 2 (rowD armO (mkL ctA mkA1 (k + t + 1) l[j].arms))] := by unfold phiE mkP; rw [rowE_ne (mkL_ne hA)]
    have hcc : (ctP l[j] : Int) = 1 + (ctL ctA l[j].arms : Int) := by unfold ctP; omega
    rw [e1] at hg
    rw [e2] at hm1
    repeat' first | refine ck_intro (by first | exact v_markArmS _ _ (by omega) hx (fun _ _ => trivial)) ?_ ?_ | refine g7 @hd @hL @hg @hnr @hss @List.set_set.{0} @List.length_set.{0} ?_ | refine d7 @hd @hL @hg @hnr @hss @List.set_set.{0} @List.length_set.{0} ?_ | refine j7 @hd @hL @hg @hnr @hss @List.set_set.{0} @List.length_set.{0} (fun hg hgo => ?_) fun hg hgo => ?_ | refine ek_ret ?_ | refine ek_norm ?_ | refine ⟨by omega, ?_⟩ | rfl | trivial | intro _
    refine rd_norm [(0, .hdr (1000000, []) 2 l.length), (1, iv (k + ctL ctP (l.take (j + 1)))), (5, iv (j + 1 : Nat)), (1000000, .own 2 (rowD phiE (mkL ctP mkP k (l.take (j + 1)) ++ l.drop (j + 1))))] (sub_of ?_) (m - 1) (by omega) ⟨j + 1, by omega, rfl⟩
    rw [hk2, hm1]
    rw [show k + t + (ctP l[j] : Int) = k + t + 1 + (ctL ctA l[j].arms : Int) by omega]
    exact dn
  ·have hd : decide ((j : Int) < (l.length : Int)) = false := by rw [decide_eq_false_iff_not]; omega
   have hjn : j = l.length := by omega
   subst hjn
   rw [List.take_length]
   have h0 : rowD phiE (mkL ctP mkP k l ++ l.drop l.length) = rowD phiE (mkL ctP mkP k l) := by simp
   repeat' first | refine g2 @hd @h0 ?_ | refine d2 @hd @h0 ?_ | refine j2 @hd @h0 (fun hg hgo => ?_) fun hg hgo => ?_ | refine ek_ret ?_ | refine ek_norm ?_ | refine ⟨by omega, ?_⟩ | rfl | trivial | intro _
theorem v_markBlockSE (k : Int) (l : List BlockD) (hk : 0 ≤ k ∧ k + ctL ctB l < 1099511627776) (hn : l.length < 1073741824) (hb : ∀ x ∈ l, x.ok) : C2 CC F_laws_markBlockS [.own 6 (rowD blockE l), iv k] (iv (k + ctL ctB l)) [.own 6 (rowD blockE (mkL ctB mkBk k l))] := by
 refine cw (keepF Tryz.f24) Tryz.f24 false ?_
 repeat' first | refine g0 ?_ | refine d0 ?_ | refine j0 (fun hg hgo => ?_) fun hg hgo => ?_ | refine ek_ret ?_ | refine ek_norm ?_ | refine ⟨by omega, ?_⟩ | rfl | trivial | intro _
 refine pw_loop (fun m st => ∃ j : Nat, j + m = l.length ∧ st = [(0, .hdr (1000000, []) 6 l.length), (1, iv (k + ctL ctB (l.take j))), (5, iv j), (1000000, .own 6 (rowD blockE (mkL ctB mkBk k (l.take j) ++ l.drop j)))]) l.length [(0, .hdr (1000000, []) 6 l.length), (1, iv (k + ctL ctB (l.take 0))), (5, iv (0 : Nat)), (1000000, .own 6 (rowD blockE (mkL ctB mkBk k (l.take 0) ++ l.drop 0)))] (sub_of ?_) ⟨0, by omega, rfl⟩ ?_
 ·have h0 : k + (ctL ctB (l.take 0) : Int) = k := by rw [List.take_zero]; exact Int.add_zero k
  rw [h0, List.take_zero, mkL, List.drop_zero, List.nil_append]
  exact dn
 ·rintro m st ⟨j, hj, rfl⟩
  by_cases hlt : j < l.length
  ·have hd : decide ((j : Int) < (l.length : Int)) = true := by rw [decide_eq_true_eq]; omega
   have hx := hb l[j] (List.getElem_mem hlt)
   have hct := ct_take (c := ctB) hlt
   have hcl := ct_le (c := ctB) (l := l) (j + 1)
   have hm := mk_take (c := ctB) (e := mkBk) k hlt
   have hs : ∀ y : BlockD, (rowD blockE (mkL ctB mkBk k (l.take j) ++ l.drop j)).set j (blockE y) = rowD blockE (mkL ctB mkBk k (l.take j) ++ y :: l.drop (j + 1)) := fun y => row_set (mk_take_len hlt) hlt y
   have hg := row_get (o := blockE) (mk_take_len (c := ctB) (e := mkBk) (k := k) hlt) hlt
   have hL : (rowD blockE (mkL ctB mkBk k (l.take j) ++ l.drop j)).length = l.length := by rw [rowD_len, List.length_append, mk_take_len hlt, List.length_drop]; omega
   have hnr : noRefs (rowD blockE (mkL ctB mkBk k (l.take j) ++ l.drop j)) = true := nrs_rowD fun x => nr_blockE
   have hm1 : rowD blockE (mkL ctB mkBk k (l.take (j + 1)) ++ l.drop (j + 1)) = (rowD blockE (mkL ctB mkBk k (l.take j) ++ l.drop j)).set j (blockE (mkBk (k + (ctL ctB (l.take j) : Int)) l[j])) := by rw [hm, List.append_assoc, List.singleton_append, ← hs]
   clear hm
   generalize rowD blockE (mkL ctB mkBk k (l.take j) ++ l.drop j) = L at hs hg hL hnr hm1
   rw [hct] at hcl
   have hk2 : k + (ctL ctB (l.take (j + 1)) : Int) = k + (ctL ctB (l.take j) : Int) + (ctB l[j] : Int) := by omega
   clear hct
   generalize hT : (ctL ctB (l.take j) : Int) = t at hcl hk2 hm1 ⊢
   have hjL : j < L.length := by omega
   have hss : ∀ d, (L.set j d)[j]? = some d := fun d => List.getElem?_set_self hjL
   have hcc : (ctB l[j] : Int) = (ctL ctP l[j].phis : Int) + (ctL ctS l[j].list : Int) + 4 := by unfold ctB; omega
   by_cases hA : l[j].phis = []
   ·by_cases hB : l[j].list = []
    ·have e1 : blockE l[j] = .agg [.fv (.row 2 []), .fv (.row 5 []), .fv (termF l[j].term)] := by unfold blockE; rw [hA, rowE_nil, hB, rowE_nil]
     have e2 : blockE (mkBk (k + t) l[j]) = .agg [.fv (.row 2 []), .fv (.row 5 []), .fv (termF (mkT (k + t + ctL ctP l[j].phis + ctL ctS l[j].list)))] := by unfold blockE mkBk; simp only; rw [hA, show mkL ctP mkP (k + t) [] = [] from rfl, rowE_nil, hB, show ∀ x, mkL ctS mkS5 x [] = [] from fun _ => rfl, rowE_nil]
     have hP : (ctL ctP l[j].phis : Int) = 0 := by rw [hA]; rfl
     have hQ : (ctL ctS l[j].list : Int) = 0 := by rw [hB]; rfl
     rw [e1] at hg
     rw [e2] at hm1
     rw [hP, hQ] at hm1 hcc
     repeat' first | refine ck_intro (by first | exact v_markPhi0 _ | exact v_markIns0 _) ?_ ?_ | refine g7 @hd @hL @hg @hnr @hss @List.set_set.{0} @List.length_set.{0} ?_ | refine d7 @hd @hL @hg @hnr @hss @List.set_set.{0} @List.length_set.{0} ?_ | refine j7 @hd @hL @hg @hnr @hss @List.set_set.{0} @List.length_set.{0} (fun hg hgo => ?_) fun hg hgo => ?_ | refine ek_ret ?_ | refine ek_norm ?_ | refine ⟨by omega, ?_⟩ | rfl | trivial | intro _
     refine rd_norm [(0, .hdr (1000000, []) 6 l.length), (1, iv (k + ctL ctB (l.take (j + 1)))), (5, iv (j + 1 : Nat)), (1000000, .own 6 (rowD blockE (mkL ctB mkBk k (l.take (j + 1)) ++ l.drop (j + 1))))] (sub_of ?_) (m - 1) (by omega) ⟨j + 1, by omega, rfl⟩
     rw [hk2, hm1]
     simp only [Int.add_zero]
     rw [show k + t + (ctB l[j] : Int) = k + t + 1 + 1 + 1 + 1 by omega]
     exact dn
    ·have e1 : blockE l[j] = .agg [.fv (.row 2 []), .own 5 (rowD sF l[j].list), .fv (termF l[j].term)] := by unfold blockE; rw [hA, rowE_nil, rowE_ne hB]
     have e2 : blockE (mkBk (k + t) l[j]) = .agg [.fv (.row 2 []), .own 5 (rowD sF (mkL ctS mkS5 (k + t + ctL ctP l[j].phis) l[j].list)), .fv (termF (mkT (k + t + ctL ctP l[j].phis + ctL ctS l[j].list)))] := by unfold blockE mkBk; simp only; rw [hA, show mkL ctP mkP (k + t) [] = [] from rfl, rowE_nil, rowE_ne (mkL_ne hB)]
     have hP : (ctL ctP l[j].phis : Int) = 0 := by rw [hA]; rfl
     rw [e1] at hg
     rw [e2] at hm1
     rw [hP] at hm1 hcc
     repeat' first | refine ck_intro (by first | exact v_markPhi0 _ | exact v_markInsS _ _ (by omega) hx.2.2 (fun _ _ => trivial)) ?_ ?_ | refine g7 @hd @hL @hg @hnr @hss @List.set_set.{0} @List.length_set.{0} ?_ | refine d7 @hd @hL @hg @hnr @hss @List.set_set.{0} @List.length_set.{0} ?_ | refine j7 @hd @hL @hg @hnr @hss @List.set_set.{0} @List.length_set.{0} (fun hg hgo => ?_) fun hg hgo => ?_ | refine ek_ret ?_ | refine ek_norm ?_ | refine ⟨by omega, ?_⟩ | rfl | trivial | intro _
     refine rd_norm [(0, .hdr (1000000, []) 6 l.length), (1, iv (k + ctL ctB (l.take (j + 1)))), (5, iv (j + 1 : Nat)), (1000000, .own 6 (rowD blockE (mkL ctB mkBk k (l.take (j + 1)) ++ l.drop (j + 1))))] (sub_of ?_) (m - 1) (by omega) ⟨j + 1, by omega, rfl⟩
     rw [hk2, hm1]
     simp only [Int.add_zero]
     rw [show k + t + (ctB l[j] : Int) = k + t + (ctL ctS l[j].list : Int) + 1 + 1 + 1 + 1 by omega]
     exact dn
   ·by_cases hB : l[j].list = []
    ·have e1 : blockE l[j] = .agg [.own 2 (rowD phiE l[j].phis), .fv (.row 5 []), .fv (termF l[j].term)] := by unfold blockE; rw [rowE_ne hA, hB, rowE_nil]
     have e2 : blockE (mkBk (k + t) l[j]) = .agg [.own 2 (rowD phiE (mkL ctP mkP (k + t) l[j].phis)), .fv (.row 5 []), .fv (termF (mkT (k + t + ctL ctP l[j].phis + ctL ctS l[j].list)))] := by unfold blockE mkBk; simp only; rw [rowE_ne (mkL_ne hA), hB, show ∀ x, mkL ctS mkS5 x [] = [] from fun _ => rfl, rowE_nil]
     have hQ : (ctL ctS l[j].list : Int) = 0 := by rw [hB]; rfl
     rw [e1] at hg
     rw [e2] at hm1
     rw [hQ] at hm1 hcc
     repeat' first | refine ck_intro (by first | exact v_markPhiSE _ _ (by omega) hx.1 hx.2.1 | exact v_markIns0 _) ?_ ?_ | refine g7 @hd @hL @hg @hnr @hss @List.set_set.{0} @List.length_set.{0} ?_ | refine d7 @hd @hL @hg @hnr @hss @List.set_set.{0} @List.length_set.{0} ?_ | refine j7 @hd @hL @hg @hnr @hss @List.set_set.{0} @List.length_set.{0} (fun hg hgo => ?_) fun hg hgo => ?_ | refine ek_ret ?_ | refine ek_norm ?_ | refine ⟨by omega, ?_⟩ | rfl | trivial | intro _
     refine rd_norm [(0, .hdr (1000000, []) 6 l.length), (1, iv (k + ctL ctB (l.take (j + 1)))), (5, iv (j + 1 : Nat)), (1000000, .own 6 (rowD blockE (mkL ctB mkBk k (l.take (j + 1)) ++ l.drop (j + 1))))] (sub_of ?_) (m - 1) (by omega) ⟨j + 1, by omega, rfl⟩
     rw [hk2, hm1]
     simp only [Int.add_zero]
     rw [show k + t + (ctB l[j] : Int) = k + t + (ctL ctP l[j].phis : Int) + 1 + 1 + 1 + 1 by omega]
     exact dn
    ·have e1 : blockE l[j] = .agg [.own 2 (rowD phiE l[j].phis), .own 5 (rowD sF l[j].list), .fv (termF l[j].term)] := by unfold blockE; rw [rowE_ne hA, rowE_ne hB]
     have e2 : blockE (mkBk (k + t) l[j]) = .agg [.own 2 (rowD phiE (mkL ctP mkP (k + t) l[j].phis)), .own 5 (rowD sF (mkL ctS mkS5 (k + t + ctL ctP l[j].phis) l[j].list)), .fv (termF (mkT (k + t + ctL ctP l[j].phis + ctL ctS l[j].list)))] := by unfold blockE mkBk; simp only; rw [rowE_ne (mkL_ne hA), rowE_ne (mkL_ne hB)]
     rw [e1] at hg
     rw [e2] at hm1
     repeat' first | refine ck_intro (by first | exact v_markPhiSE _ _ (by omega) hx.1 hx.2.1 | exact v_markInsS _ _ (by omega) hx.2.2 (fun _ _ => trivial)) ?_ ?_ | refine g7 @hd @hL @hg @hnr @hss @List.set_set.{0} @List.length_set.{0} ?_ | refine d7 @hd @hL @hg @hnr @hss @List.set_set.{0} @List.length_set.{0} ?_ | refine j7 @hd @hL @hg @hnr @hss @List.set_set.{0} @List.length_set.{0} (fun hg hgo => ?_) fun hg hgo => ?_ | refine ek_ret ?_ | refine ek_norm ?_ | refine ⟨by omega, ?_⟩ | rfl | trivial | intro _
     refine rd_norm [(0, .hdr (1000000, []) 6 l.length), (1, iv (k + ctL ctB (l.take (j + 1)))), (5, iv (j + 1 : Nat)), (1000000, .own 6 (rowD blockE (mkL ctB mkBk k (l.take (j + 1)) ++ l.drop (j + 1))))] (sub_of ?_) (m - 1) (by omega) ⟨j + 1, by omega, rfl⟩
     rw [hk2, hm1]
     rw [show k + t + (ctB l[j] : Int) = k + t + (ctL ctP l[j].phis : Int) + (ctL ctS l[j].list : Int) + 1 + 1 + 1 + 1 by omega]
     exact dn
  ·have hd : decide ((j : Int) < (l.length : Int)) = false := by rw [decide_eq_false_iff_not]; omega
   have hjn : j = l.length := by omega
   subst hjn
   rw [List.take_length]
   have h0 : rowD blockE (mkL ctB mkBk k l ++ l.drop l.length) = rowD blockE (mkL ctB mkBk k l) := by simp
   repeat' first | refine g2 @hd @h0 ?_ | refine d2 @hd @h0 ?_ | refine j2 @hd @h0 (fun hg hgo => ?_) fun hg hgo => ?_ | refine ek_ret ?_ | refine ek_norm ?_ | refine ⟨by omega, ?_⟩ | rfl | trivial | intro _
theorem v_markFnE (k : Int) (x : FnD) (h0 : x.blocks ≠ []) (hk : 0 ≤ k ∧ k + ctF x < 1099511627776) (hx : x.ok) : C2 CC F_laws_markFn [.agg [.own 6 (rowD blockE x.blocks), iv x.values], iv k] (iv (k + ctF x)) [.agg [.own 6 (rowD blockE (mkF k x).blocks), iv x.values]] := by
 have h1 := v_markBlockSE k x.blocks hk hx.1 hx.2
 obtain ⟨blocks, values⟩ := x
 unfold ctF mkF at *
 refine cwG 0 (keepF Tryz.f11) Tryz.f11 false ?_
 repeat' first | refine ck_intro (by first | exact h1) ?_ ?_ | refine ekg_ret ?_ | refine ekg_norm ?_ | refine g0 ?_ | refine d0 ?_ | refine j0 (fun hg hgo => ?_) fun hg hgo => ?_ | refine ek_ret ?_ | refine ek_norm ?_ | refine ⟨by omega, ?_⟩ | rfl | trivial | intro _
theorem v_markFn0 (k : Int) : C2 CC F_laws_markFn [.fv (.agg [.row 6 [], .int .i64 0]), iv k] (iv k) [] := by
 refine cw (keepF Tryz.f11) Tryz.f11 false ?_
 repeat' first | refine ck_intro (by first | exact v_markBlock0 _) ?_ ?_ | refine g0 ?_ | refine d0 ?_ | refine j0 (fun hg hgo => ?_) fun hg hgo => ?_ | refine ek_ret ?_ | refine ek_norm ?_ | refine ⟨by omega, ?_⟩ | rfl | trivial | intro _
theorem v_heldArmS (k : Int) (l : List ArmD) (hk : 0 ≤ k ∧ k + ctL ctA l < 1099511627776) (hn : l.length < 1073741824) (hb : ∀ x ∈ l, True) : C2 CC F_laws_heldArmS [.fv (.row 2 ((mkL ctA mkA1 k l).map armF)), iv k] (iv (k + ctL ctA l)) [] := by
 have hlen : (mkL ctA mkA1 k l).length = l.length := mk_len k l
 refine cw (keepF Tryz.f67) Tryz.f67 false ?_
 repeat' first | refine g1 @hlen ?_ | refine d1 @hlen ?_ | refine j1 @hlen (fun hg hgo => ?_) fun hg hgo => ?_ | refine ek_ret ?_ | refine ek_norm ?_ | refine ⟨by omega, ?_⟩ | rfl | trivial | intro _
 refine pw_loop (fun m st => ∃ j : Nat, j + m = l.length ∧ st = [(0, .fv (.row 2 ((mkL ctA mkA1 k l).map armF))), (1, iv (k + ctL ctA (l.take j))), (5, iv j)]) l.length [(0, .fv (.row 2 ((mkL ctA mkA1 k l).map armF))), (1, iv (k + ctL ctA (l.take 0))), (5, iv (0 : Nat))] (sub_of ?_) ⟨0, by omega, rfl⟩ ?_
 ·have h0 : k + (ctL ctA (l.take 0) : Int) = k := by rw [List.take_zero]; exact Int.add_zero k
  rw [h0]
  exact dn
 ·rintro m st ⟨j, hj, rfl⟩
  by_cases hlt : j < l.length
  ·have hd : decide ((j : Int) < (l.length : Int)) = true := by rw [decide_eq_true_eq]; omega
   have hm1 : j < ((mkL ctA mkA1 k l).map armF).length := by rw [List.length_map, hlen]; exact hlt
   have hx := hb l[j] (List.getElem_mem hlt)
   have hct := ct_take (c := ctA) hlt
   have hcl := ct_le (c := ctA) (l := l) (j + 1)
   have hge : ∀ h, (mkL ctA mkA1 k l)[j]'h = mkA1 (k + (ctL ctA (l.take j) : Int)) l[j] := fun h => mk_get hlt h
   have hmj : j < (mkL ctA mkA1 k l).length := by omega
   rw [hct] at hcl
   have hk2 : k + (ctL ctA (l.take (j + 1)) : Int) = k + (ctL ctA (l.take j) : Int) + (ctA l[j] : Int) := by omega
   clear hct
   generalize hT : (ctL ctA (l.take j) : Int) = t at hcl hk2 hge ⊢
   have ht0 : 0 ≤ t := by omega
   have hcc : (ctA l[j] : Int) = 2 := rfl
   generalize mkL ctA mkA1 k l = ml at hlen hm1 hge hmj ⊢
   have q0 : ∀ h, (ml[j]'h).fr = k + t := fun h => by rw [hge]; rfl
   have q1 : ∀ h, (ml[j]'h).v = k + t + 1 := fun h => by rw [hge]; rfl
   clear hge
   repeat' first | refine g4 @hd @hlen @q0 @q1 ?_ | refine d4 @hd @hlen @q0 @q1 ?_ | refine j4 @hd @hlen @q0 @q1 (fun hg hgo => ?_) fun hg hgo => ?_ | refine ek_ret ?_ | refine ek_norm ?_ | refine ⟨by omega, ?_⟩ | rfl | trivial | intro _
   all_goals first | (exfalso; omega) | skip
   refine rd_norm [(0, .fv (.row 2 (ml.map armF))), (1, iv (k + ctL ctA (l.take (j + 1)))), (5, iv (j + 1 : Nat))] (sub_of ?_) (m - 1) (by omega) ⟨j + 1, by omega, rfl⟩
   rw [hk2]
   rw [show k + t + (ctA l[j] : Int) = k + t + 1 + 1 by omega]
   exact dn
  ·have hd : decide ((j : Int) < (l.length : Int)) = false := by rw [decide_eq_false_iff_not]; omega
   have hjn : j = l.length := by omega
   subst hjn
   rw [List.take_length]
   repeat' first | refine g2 @hd @hlen ?_ | refine d2 @hd @hlen ?_ | refine j2 @hd @hlen (fun hg hgo => ?_) fun hg hgo => ?_ | refine ek_ret ?_ | refine ek_norm ?_ | refine ⟨by omega, ?_⟩ | rfl | trivial | intro _
theorem v_heldPhiS (k : Int) (l : List PhiD) (hk : 0 ≤ k ∧ k + ctL ctP l < 1099511627776) (hn : l.length < 1073741824) (hb : ∀ x ∈ l, x.arms.length < 1073741824) : C2 CC F_laws_heldPhiS [.fv (.row 2 ((mkL ctP mkP k l).map phiF)), iv k] (iv (k + ctL ctP l)) [] := by
 have hlen : (mkL ctP mkP k l).length = l.length := mk_len k l
 refine cw (keepF Tryz.f42) Tryz.f42 false ?_
 repeat' first | refine g1 @hlen ?_ | refine d1 @hlen ?_ | refine j1 @hlen (fun hg hgo => ?_) fun hg hgo => ?_ | refine ek_ret ?_ | refine ek_norm ?_ | refine ⟨by omega, ?_⟩ | rfl | trivial | intro _
 refine pw_loop (fun m st => ∃ j : Nat, j + m = l.length ∧ st = [(0, .fv (.row 2 ((mkL ctP mkP k l).map phiF))), (1, iv (k + ctL ctP (l.take j))), (5, iv j)]) l.length [(0, .fv (.row 2 ((mkL ctP mkP k l).map phiF))), (1, iv (k + ctL ctP (l.take 0))), (5, iv (0 : Nat))] (sub_of ?_) ⟨0, by omega, rfl⟩ ?_
 ·have h0 : k + (ctL ctP (l.take 0) : Int) = k := by rw [List.take_zero]; exact Int.add_zero k
  rw [h0]
  exact dn
 ·rintro m st ⟨j, hj, rfl⟩
  by_cases hlt : j < l.length
  ·have hd : decide ((j : Int) < (l.length : Int)) = true := by rw [decide_eq_true_eq]; omega
   have hm1 : j < ((mkL ctP mkP k l).map phiF).length := by rw [List.length_map, hlen]; exact hlt
   have hx := hb l[j] (List.getElem_mem hlt)
   have hct := ct_take (c := ctP) hlt
   have hcl := ct_le (c := ctP) (l := l) (j + 1)
   have hge : ∀ h, (mkL ctP mkP k l)[j]'h = mkP (k + (ctL ctP (l.take j) : Int)) l[j] := fun h => mk_get hlt h
   have hmj : j < (mkL ctP mkP k l).length := by omega
   rw [hct] at hcl
   have hk2 : k + (ctL ctP (l.take (j + 1)) : Int) = k + (ctL ctP (l.take j) : Int) + (ctP l[j] : Int) := by omega
   clear hct
   generalize hT : (ctL ctP (l.take j) : Int) = t at hcl hk2 hge ⊢
   have ht0 : 0 ≤ t := by omega
   have hcc : (ctP l[j] : Int) = 1 + (ctL ctA l[j].arms : Int) := by unfold ctP; omega
   generalize mkL ctP mkP k l = ml at hlen hm1 hge hmj ⊢
   have q0 : ∀ h, (ml[j]'h).d = k + t := fun h => by rw [hge]; rfl
   have q1 : ∀ h, (ml[j]'h).arms = mkL ctA mkA1 (k + t + 1) l[j].arms := fun h => by rw [hge]; rfl
   clear hge
   repeat' first | refine ck_intro (by first | exact v_heldArmS _ _ (by omega) hx (fun _ _ => trivial)) ?_ ?_ | refine g4 @hd @hlen @q0 @q1 ?_ | refine d4 @hd @hlen @q0 @q1 ?_ | refine j4 @hd @hlen @q0 @q1 (fun hg hgo => ?_) fun hg hgo => ?_ | refine ek_ret ?_ | refine ek_norm ?_ | refine ⟨by omega, ?_⟩ | rfl | trivial | intro _
   all_goals first | (exfalso; omega) | skip
   refine rd_norm [(0, .fv (.row 2 (ml.map phiF))), (1, iv (k + ctL ctP (l.take (j + 1)))), (5, iv (j + 1 : Nat))] (sub_of ?_) (m - 1) (by omega) ⟨j + 1, by omega, rfl⟩
   rw [hk2]
   rw [show k + t + (ctP l[j] : Int) = k + t + 1 + (ctL ctA l[j].arms : Int) by omega]
   exact dn
  ·have hd : decide ((j : Int) < (l.length : Int)) = false := by rw [decide_eq_false_iff_not]; omega
   have hjn : j = l.length := by omega
   subst hjn
   rw [List.take_length]
   repeat' first | refine g2 @hd @hlen ?_ | refine d2 @hd @hlen ?_ | refine j2 @hd @hlen (fun hg hgo => ?_) fun hg hgo => ?_ | refine ek_ret ?_ | refine ek_norm ?_ | refine ⟨by omega, ?_⟩ | rfl | trivial | intro _
theorem v_heldInsS (k : Int) (l : List StepD) (hk : 0 ≤ k ∧ k + ctL ctS l < 1099511627776) (hn : l.length < 1073741824) (hb : ∀ x ∈ l, True) : C2 CC F_laws_heldInsS [.fv (.row 5 ((mkL ctS mkS5 k l).map stF)), iv k] (iv (k + ctL ctS l)) [] := by
 have hlen : (mkL ctS mkS5 k l).length = l.length := mk_len k l
 refine cw (keepF Tryz.f43) Tryz.f43 false ?_
 repeat' first | refine g1 @hlen ?_ | refine d1 @hlen ?_ | refine j1 @hlen (fun hg hgo => ?_) fun hg hgo => ?_ | refine ek_ret ?_ | refine ek_norm ?_ | refine ⟨by omega, ?_⟩ | rfl | trivial | intro _
 refine pw_loop (fun m st => ∃ j : Nat, j + m = l.length ∧ st = [(0, .fv (.row 5 ((mkL ctS mkS5 k l).map stF))), (1, iv (k + ctL ctS (l.take j))), (5, iv j)]) l.length [(0, .fv (.row 5 ((mkL ctS mkS5 k l).map stF))), (1, iv (k + ctL ctS (l.take 0))), (5, iv (0 : Nat))] (sub_of ?_) ⟨0, by omega, rfl⟩ ?_
 ·have h0 : k + (ctL ctS (l.take 0) : Int) = k := by rw [List.take_zero]; exact Int.add_zero k
  rw [h0]
  exact dn
 ·rintro m st ⟨j, hj, rfl⟩
  by_cases hlt : j < l.length
  ·have hd : decide ((j : Int) < (l.length : Int)) = true := by rw [decide_eq_true_eq]; omega
   have hm1 : j < ((mkL ctS mkS5 k l).map stF).length := by rw [List.length_map, hlen]; exact hlt
   have hx := hb l[j] (List.getElem_mem hlt)
   have hct := ct_take (c := ctS) hlt
   have hcl := ct_le (c := ctS) (l := l) (j + 1)
   have hge : ∀ h, (mkL ctS mkS5 k l)[j]'h = mkS5 (k + (ctL ctS (l.take j) : Int)) l[j] := fun h => mk_get hlt h
   have hmj : j < (mkL ctS mkS5 k l).length := by omega
   rw [hct] at hcl
   have hk2 : k + (ctL ctS (l.take (j + 1)) : Int) = k + (ctL ctS (l.take j) : Int) + (ctS l[j] : Int) := by omega
   clear hct
   generalize hT : (ctL ctS (l.take j) : Int) = t at hcl hk2 hge ⊢
   have ht0 : 0 ≤ t := by omega
   have hcc : (ctS l[j] : Int) = 5 := rfl
   generalize mkL ctS mkS5 k l = ml at hlen hm1 hge hmj ⊢
   have q0 : ∀ h, (ml[j]'h).op = k + t := fun h => by rw [hge]; rfl
   have q1 : ∀ h, (ml[j]'h).r = k + t + 1 := fun h => by rw [hge]; rfl
   have q2 : ∀ h, (ml[j]'h).a = k + t + 1 + 1 := fun h => by rw [hge]; rfl
   have q3 : ∀ h, (ml[j]'h).b = k + t + 1 + 1 + 1 := fun h => by rw [hge]; rfl
   have q4 : ∀ h, (ml[j]'h).n = k + t + 1 + 1 + 1 + 1 := fun h => by rw [hge]; rfl
   clear hge
   repeat' first | refine g7 @hd @hlen @q0 @q1 @q2 @q3 @q4 ?_ | refine d7 @hd @hlen @q0 @q1 @q2 @q3 @q4 ?_ | refine j7 @hd @hlen @q0 @q1 @q2 @q3 @q4 (fun hg hgo => ?_) fun hg hgo => ?_ | refine ek_ret ?_ | refine ek_norm ?_ | refine ⟨by omega, ?_⟩ | rfl | trivial | intro _
   all_goals first | (exfalso; omega) | skip
   refine rd_norm [(0, .fv (.row 5 (ml.map stF))), (1, iv (k + ctL ctS (l.take (j + 1)))), (5, iv (j + 1 : Nat))] (sub_of ?_) (m - 1) (by omega) ⟨j + 1, by omega, rfl⟩
   rw [hk2]
   rw [show k + t + (ctS l[j] : Int) = k + t + 1 + 1 + 1 + 1 + 1 by omega]
   exact dn
  ·have hd : decide ((j : Int) < (l.length : Int)) = false := by rw [decide_eq_false_iff_not]; omega
   have hjn : j = l.length := by omega
   subst hjn
   rw [List.take_length]
   repeat' first | refine g2 @hd @hlen ?_ | refine d2 @hd @hlen ?_ | refine j2 @hd @hlen (fun hg hgo => ?_) fun hg hgo => ?_ | refine ek_ret ?_ | refine ek_norm ?_ | refine ⟨by omega, ?_⟩ | rfl | trivial | intro _
theorem v_heldBlockS (k : Int) (l : List BlockD) (hk : 0 ≤ k ∧ k + ctL ctB l < 1099511627776) (hn : l.length < 1073741824) (hb : ∀ x ∈ l, x.ok) : C2 CC F_laws_heldBlockS [.fv (.row 6 ((mkL ctB mkBk k l).map blockF)), iv k] (iv (k + ctL ctB l)) [] := by
 have hlen : (mkL ctB mkBk k l).length = l.length := mk_len k l
 refine cw (keepF Tryz.f25) Tryz.f25 false ?_
 repeat' first | refine g1 @hlen ?_ | refine d1 @hlen ?_ | refine j1 @hlen (fun hg hgo => ?_) fun hg hgo => ?_ | refine ek_ret ?_ | refine ek_norm ?_ | refine ⟨by omega, ?_⟩ | rfl | trivial | intro _
 refine pw_loop (fun m st => ∃ j : Nat, j + m = l.length ∧ st = [(0, .fv (.row 6 ((mkL ctB mkBk k l).map blockF))), (1, iv (k + ctL ctB (l.take j))), (5, iv j)]) l.length [(0, .fv (.row 6 ((mkL ctB mkBk k l).map blockF))), (1, iv (k + ctL ctB (l.take 0))), (5, iv (0 : Nat))] (sub_of ?_) ⟨0, by omega, rfl⟩ ?_
 ·have h0 : k + (ctL ctB (l.take 0) : Int) = k := by rw [List.take_zero]; exact Int.add_zero k
  rw [h0]
  exact dn
 ·rintro m st ⟨j, hj, rfl⟩
  by_cases hlt : j < l.length
  ·have hd : decide ((j : Int) < (l.length : Int)) = true := by rw [decide_eq_true_eq]; omega
   have hm1 : j < ((mkL ctB mkBk k l).map blockF).length := by rw [List.length_map, hlen]; exact hlt
   have hx := hb l[j] (List.getElem_mem hlt)
   have hct := ct_take (c := ctB) hlt
   have hcl := ct_le (c := ctB) (l := l) (j + 1)
   have hge : ∀ h, (mkL ctB mkBk k l)[j]'h = mkBk (k + (ctL ctB (l.take j) : Int)) l[j] := fun h => mk_get hlt h
   have hmj : j < (mkL ctB mkBk k l).length := by omega
   rw [hct] at hcl
   have hk2 : k + (ctL ctB (l.take (j + 1)) : Int) = k + (ctL ctB (l.take j) : Int) + (ctB l[j] : Int) := by omega
   clear hct
   generalize hT : (ctL ctB (l.take j) : Int) = t at hcl hk2 hge ⊢
   have ht0 : 0 ≤ t := by omega
   have hcc : (ctB l[j] : Int) = (ctL ctP l[j].phis : Int) + (ctL ctS l[j].list : Int) + 4 := by unfold ctB; omega
   generalize mkL ctB mkBk k l = ml at hlen hm1 hge hmj ⊢
   have q0 : ∀ h, (ml[j]'h).phis = mkL ctP mkP (k + t) l[j].phis := fun h => by rw [hge]; rfl
   have q1 : ∀ h, (ml[j]'h).list = mkL ctS mkS5 (k + t + ctL ctP l[j].phis) l[j].list := fun h => by rw [hge]; rfl
   have q2 : ∀ h, (ml[j]'h).term.kind = k + t + ctL ctP l[j].phis + ctL ctS l[j].list := fun h => by rw [hge]; rfl
   have q3 : ∀ h, (ml[j]'h).term.a = k + t + ctL ctP l[j].phis + ctL ctS l[j].list + 1 := fun h => by rw [hge]; rfl
   have q4 : ∀ h, (ml[j]'h).term.to = k + t + ctL ctP l[j].phis + ctL ctS l[j].list + 1 + 1 := fun h => by rw [hge]; rfl
   have q5 : ∀ h, (ml[j]'h).term.els = k + t + ctL ctP l[j].phis + ctL ctS l[j].list + 1 + 1 + 1 := fun h => by rw [hge]; rfl
   clear hge
   repeat' first | refine ck_intro (by first | exact v_heldPhiS _ _ (by omega) hx.1 hx.2.1 | exact v_heldInsS _ _ (by omega) hx.2.2 (fun _ _ => trivial)) ?_ ?_ | refine g8 @hd @hlen @q0 @q1 @q2 @q3 @q4 @q5 ?_ | refine d8 @hd @hlen @q0 @q1 @q2 @q3 @q4 @q5 ?_ | refine j8 @hd @hlen @q0 @q1 @q2 @q3 @q4 @q5 (fun hg hgo => ?_) fun hg hgo => ?_ | refine ek_ret ?_ | refine ek_norm ?_ | refine ⟨by omega, ?_⟩ | rfl | trivial | intro _
   all_goals first | (exfalso; omega) | skip
   refine rd_norm [(0, .fv (.row 6 (ml.map blockF))), (1, iv (k + ctL ctB (l.take (j + 1)))), (5, iv (j + 1 : Nat))] (sub_of ?_) (m - 1) (by omega) ⟨j + 1, by omega, rfl⟩
   rw [hk2]
   rw [show k + t + (ctB l[j] : Int) = k + t + (ctL ctP l[j].phis : Int) + (ctL ctS l[j].list : Int) + 1 + 1 + 1 + 1 by omega]
   exact dn
  ·have hd : decide ((j : Int) < (l.length : Int)) = false := by rw [decide_eq_false_iff_not]; omega
   have hjn : j = l.length := by omega
   subst hjn
   rw [List.take_length]
   repeat' first | refine g2 @hd @hlen ?_ | refine d2 @hd @hlen ?_ | refine j2 @hd @hlen (fun hg hgo => ?_) fun hg hgo => ?_ | refine ek_ret ?_ | refine ek_norm ?_ | refine ⟨by omega, ?_⟩ | rfl | trivial | intro _
theorem v_heldFn (k : Int) (x : FnD) (hk : 0 ≤ k ∧ k + ctF x < 1099511627776) (hx : x.ok) : C2 CC F_laws_heldFn [.fv (fnF (mkF k x)), iv k] (iv (k + ctF x)) [] := by
 have h1 := v_heldBlockS k x.blocks hk hx.1 hx.2
 obtain ⟨blocks, values⟩ := x
 unfold ctF mkF at *
 simp only at h1 ⊢
 refine cw (keepF Tryz.f13) Tryz.f13 false ?_
 repeat' first | refine ck_intro (by first | exact h1) ?_ ?_ | refine g0 ?_ | refine d0 ?_ | refine j0 (fun hg hgo => ?_) fun hg hgo => ?_ | refine ek_ret ?_ | refine ek_norm ?_ | refine ⟨by omega, ?_⟩ | rfl | trivial | intro _
 all_goals (exfalso; omega)
theorem ctB_small {b : BlockD} (hp : b.phis = []) (hl : b.list.length ≤ 24) : ctB b ≤ 124 := by
 unfold ctB
 rw [hp]
 have : ∀ l : List StepD, ctL ctS l = 5 * l.length := by
  intro l
  induction l with
  | nil => rfl
  | cons a l ih =>
   have h1 : ctL ctS (a :: l) = ctS a + ctL ctS l := by unfold ctL; rw [List.map_cons, List.sum_cons]
   rw [h1, ih, List.length_cons]; unfold ctS; omega
 rw [this]
 have : ctL ctP [] = 0 := rfl
 omega
theorem ctF_ren {h : List Int} {f : FnD} (hr : Rn f h) : (ctF (renF h f) : Int) ≤ 1984 := by
 have key : ∀ l : List BlockD, (∀ b ∈ l, b.phis = [] ∧ b.list.length ≤ 24) → ctL ctB l ≤ 124 * l.length := by
  intro l
  induction l with
  | nil => intro _; exact Nat.le_refl _
  | cons a l ih =>
   intro hh
   have h1 : ctL ctB (a :: l) = ctB a + ctL ctB l := by unfold ctL; rw [List.map_cons, List.sum_cons]
   have h2 := ctB_small (hh a (by simp)).1 (hh a (by simp)).2
   have h3 := ih fun b hb => hh b (by simp [hb])
   rw [h1, List.length_cons]; omega
 have h4 := key (renF h f).blocks fun b hb => by
  refine ⟨renF_phis b hb, ?_⟩
  unfold renF at hb
  obtain ⟨x, hx, rfl⟩ := List.mem_map.1 hb
  obtain ⟨i, hi, rfl⟩ := List.mem_iff_getElem.1 hx
  have h5 := hr.list i hi
  have h6 := @renL_len h f.blocks[i].list
  simp only [renB]; omega
 have h7 : (renF h f).blocks.length = f.blocks.length := by unfold renF; rw [List.length_map]
 have h8 := hr.cnt
 unfold ctF; omega
theorem v_FnExactRenamed (x : FnD) (h : List Int) (hx : x.ln) (hh : h.length ≤ 9223372036854775807) : C2 CC F_laws_FnExactRenamed [.fv (fnF x), .fv (intR h)] (bv true) [] := by
 by_cases hb : (h.length : Int) > 1048576
 ·have hd0 : decide ((h.length : Int) > 1048576) = true := by rw [decide_eq_true_eq]; exact hb
  refine cw (keepF Tryz.f3) Tryz.f3 false ?_
  repeat' first | refine pdx 52 [0, 0, 2, 7, 15] [2, 1, 6, 5, 0] ?_ | refine g1 @hd0 ?_ | refine d1 @hd0 ?_ | refine j1 @hd0 (fun hg hgo => ?_) fun hg hgo => ?_ | refine ek_ret ?_ | refine ek_norm ?_ | refine ⟨by omega, ?_⟩ | rfl | trivial | intro _
 ·have hd0 : decide ((h.length : Int) > 1048576) = false := by rw [decide_eq_false_iff_not]; exact hb
  have hz := v_szFn x 1048576 (by omega) hx
  by_cases h0 : szFn x 1048576 < 0
  ·have hd : decide (szFn x 1048576 < 0) = true := by rw [decide_eq_true_eq]; exact h0
   refine cw (keepF Tryz.f3) Tryz.f3 false ?_
   repeat' first | refine ck_intro (by first | exact hz) ?_ ?_ | refine pdx 52 [0, 0, 2, 7, 15] [2, 1, 6, 5, 0] ?_ | refine g2 @hd @hd0 ?_ | refine d2 @hd @hd0 ?_ | refine j2 @hd @hd0 (fun hg hgo => ?_) fun hg hgo => ?_ | refine ek_ret ?_ | refine ek_norm ?_ | refine ⟨by omega, ?_⟩ | rfl | trivial | intro _
  ·have hd : decide (szFn x 1048576 < 0) = false := by rw [decide_eq_false_iff_not]; exact h0
   obtain ⟨-, -, hok⟩ := szFn_ok x (by omega)
   have ht := v_toFn x hok
   have hcF := ctF_le x (by omega)
   have he := v_eqFn x x hok hok
   rw [decide_eq_true (rfl : x = x)] at he
   have hqi := v_eqIntS h h (by omega) (by omega)
   rw [decide_eq_true (rfl : h = h)] at hqi
   have hti := v_toIntS h (by omega)
   have hm := v_markFn 1 x ⟨by omega, by omega⟩ hok
   have hmi := v_markIntS (1 + ctF x) h ⟨by omega, by omega⟩ (by omega)
   have hkm : decide ((1 : Int) + (ctF x : Int) + (h.length : Int) < 0) = false := by rw [decide_eq_false_iff_not]; omega
   cases hp : (plainB x && homesB h (clashF x) x.values.toNat) with
   | false =>
    have hs := c2_tup (.cons (.fv (.agg (.cons (.nil 6) (.cons (.same _) .nil)))) (.cons (.same _) .nil)) (v_Renamed_spec_no x h hok (by omega) hp)
    have hi := c2_tup (.cons (.fv (.agg (.cons (.nil 6) (.cons (.same _) .nil)))) (.cons (.same _) .nil)) (v_Renamed_no x h hok (by omega) hp)
    have hq := v_eqFn ⟨[], 0⟩ ⟨[], 0⟩ ⟨by simp, by simp⟩ ⟨by simp, by simp⟩
    rw [decide_eq_true (rfl : (⟨[], 0⟩ : FnD) = ⟨[], 0⟩)] at hq
    have hhf := v_heldFn 1 ⟨[], 0⟩ ⟨by simp [ctF, ctL], by simp [ctF, ctL]⟩ ⟨by simp, by simp⟩
    have hq0 : fnF ⟨[], 0⟩ = .agg [.row 6 [], .int .i64 0] := rfl
    have hq1 : fnF (mkF 1 ⟨[], 0⟩) = .agg [.row 6 [], .int .i64 0] := rfl
    rw [hq0] at hq
    rw [hq1, show (1 : Int) + (ctF ⟨[], 0⟩ : Int) = 1 from rfl] at hhf
    refine cw (keepF Tryz.f3) Tryz.f3 false ?_
    repeat' first | refine ck_intro (by first | exact hz | exact ht | exact hti | exact hs | exact hi | exact he | exact hm | exact hqi | exact hmi | exact hq | exact v_markFn0 _ | exact hhf) ?_ ?_ | refine pdx 52 [0, 0, 2, 7, 15] [2, 1, 6, 5, 0] ?_ | refine g3 @hd @hd0 @hkm ?_ | refine d3 @hd @hd0 @hkm ?_ | refine j3 @hd @hd0 @hkm (fun hg hgo => ?_) fun hg hgo => ?_ | refine ek_ret ?_ | refine ek_norm ?_ | refine ⟨by omega, ?_⟩ | rfl | trivial | intro _
    all_goals (exfalso; omega)
   | true =>
    have hpl : plainB x = true := by rw [Bool.and_eq_true] at hp; exact hp.1
    have hR := rn_of hpl (by rw [Bool.and_eq_true] at hp; exact hp.2)
    have hle := natR_le (renF_phis (h := h) (f := x))
    have hs := c2_tup (.cons (.agg (.cons (.own hle) (.cons (.same _) .nil))) (.cons (.same _) .nil)) (v_Renamed_spec x h hok (by omega) hp)
    have hi := c2_tup (.cons (.agg (.cons (.own hle) (.cons (.same _) .nil))) (.cons (.same _) .nil)) (v_Renamed x h hok (by omega) hp)
    have hrok := renF_ok hR
    have hne := renF_ne (h := h) hR.ne
    have hct := ctF_ren hR
    have hv : (renF h x).values = 40 := rfl
    generalize renF h x = y at hs hi hrok hne hct hv
    obtain ⟨yb, yv⟩ := y
    simp only at hs hi hne hv
    subst hv
    have hq := v_eqFn ⟨yb, 40⟩ ⟨yb, 40⟩ hrok hrok
    rw [decide_eq_true (rfl : (⟨yb, 40⟩ : FnD) = ⟨yb, 40⟩)] at hq
    have hmy := v_markFnE 1 ⟨yb, 40⟩ hne ⟨by omega, by omega⟩ hrok
    have hhy := v_heldFn 1 ⟨yb, 40⟩ ⟨by omega, by omega⟩ hrok
    have hky : decide ((1 : Int) + (ctF ⟨yb, 40⟩ : Int) < 0) = false := by rw [decide_eq_false_iff_not]; omega
    generalize hmk : mkF 1 ⟨yb, 40⟩ = my at hmy hhy
    obtain ⟨mb, mv⟩ := my
    have hmv : mv = 40 := by unfold mkF at hmk; injection hmk with _ h9; exact h9.symm
    subst hmv
    simp only at hmy
    have hc0 : (0 : Int) ≤ (ctF ⟨yb, 40⟩ : Int) := Int.natCast_nonneg _
    generalize (ctF ⟨yb, 40⟩ : Int) = cy at hmy hhy hky hct hc0
    refine cw (keepF Tryz.f3) Tryz.f3 false ?_
    repeat' first | refine ck_intro (by first | exact hz | exact ht | exact hti | exact hs | exact hi | exact he | exact hm | exact hqi | exact hmi | exact hq | exact hmy | exact hhy) ?_ ?_ | refine pdx 52 [0, 0, 2, 7, 15] [2, 1, 6, 5, 0] ?_ | refine g4 @hd @hd0 @hkm @hky ?_ | refine d4 @hd @hd0 @hkm @hky ?_ | refine j4 @hd @hd0 @hkm @hky (fun hg hgo => ?_) fun hg hgo => ?_ | refine ek_ret ?_ | refine ek_norm ?_ | refine ⟨by omega, ?_⟩ | rfl | trivial | intro _
    all_goals (exfalso; omega)
end Go.Proofs.YtonpnjfclelpiaaGreatM
