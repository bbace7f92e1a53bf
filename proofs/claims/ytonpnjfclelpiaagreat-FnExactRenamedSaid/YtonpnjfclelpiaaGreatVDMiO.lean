import Derived.Test.YtonpnjfclelpiaaGreatVDMiE
namespace Go.Proofs.YtonpnjfclelpiaaGreatM
open Go
set_option linter.unusedVariables false
set_option linter.unusedSimpArgs false
section
variable {P : Program} {Γ : TypeId → Option TI} {E : TypeId → Nat} {G : Nat} {I : World → Prop} {π : Nat → Option Pl} {h : Hp} {w : World}
theorem repZ_length (z : List Value) : ∀ n, (repZ z n).length = n * z.length
 | 0 => by simp [repZ]
 | n + 1 => by simp [repZ, repZ_length z n, Nat.succ_mul]; omega
theorem repZ_get (z : List Value) : ∀ (n i : Nat), i < n * z.length → (repZ z n)[i]? = z[i % z.length]?
 | 0, i, h => by simp at h
 | n + 1, i, h => by
  simp only [repZ]
  by_cases hi : i < z.length
  ·rw [List.getElem?_append_left hi, Nat.mod_eq_of_lt hi]
  ·rw [List.getElem?_append_right (by omega), repZ_get z n _ (by rw [Nat.succ_mul] at h; omega)]
   congr 1
   rw [Nat.mod_eq_sub_mod (by omega : i ≥ z.length)]
theorem zeros_eq (z : Array Value) (n : Nat) : ((Array.range (n * z.size)).map (fun i => z[i % z.size]!)).toList = repZ z.toList n := by
 apply List.ext_getElem?
 intro i
 by_cases hi : i < n * z.size
 ·have hz : 0 < z.size := by
   rcases Nat.eq_zero_or_pos z.size with h0 | h0
   ·rw [h0] at hi; simp at hi
   ·exact h0
  have hm : i % z.size < z.size := Nat.mod_lt _ hz
  rw [repZ_get _ _ _ (by simpa using hi)]
  simp [hi, hm]
 ·rw [List.getElem?_eq_none (by simp; omega), List.getElem?_eq_none (by rw [repZ_length]; simp; omega)]
theorem All2.rep {R : Value → Value → Prop} {z z' : List Value} (hz : All2 R z z') : ∀ n, All2 R (repZ z n) (repZ z' n)
 | 0 => trivial
 | n + 1 => hz.append (All2.rep hz n)
theorem vslice {n : Nat} {p : Pl} (hp : π n = some p) {o k c c' : Nat} {a : Addr} (h1 : k ≤ c') (h2 : c' ≠ 0 → a = ⟨p.blk, p.off + o, none⟩) (h3 : ∀ e, c = U e → o + c' * e = p.ext) (h4 : c < 18446744073709551616 → c' = c) :
  VR π (.slice (some ⟨n, o, none⟩) k c) (.slice (some a) k c') :=
 show VR1 π (.slice (some ⟨n, o, none⟩) k c) (.slice (some a) k c') from ⟨p, a, c', hp, rfl, h1, h2, h3, h4⟩
theorem vslice_new {n : Nat} {blk ext : Nat} (hp : π n = some ⟨blk, 0, ext⟩) {k c' e : Nat} (h1 : k ≤ c') (h2 : c' * e = ext) :
  VR π (.slice (some ⟨n, 0, none⟩) k (U e)) (.slice (some ⟨blk, 0, none⟩) k c') :=
 vslice hp h1 (fun _ => rfl) (fun e' he => by rw [← U_inj he]; simpa using h2) (fun hh => absurd hh (U_lt _))
theorem make_sound (hI : Low G I) (K : Know P Γ E) (r : Rep G I π h w) {ρ ρ' : Operand → Value} {o : Oper} {nm : Nat} {v : Value} {b : Blk} (hm : makeV Γ nm ρ o.op = some (v, b)) (hρ : ∀ x ∈ o.op.operands, VR π (ρ x) (ρ' x))
  (hn : π nm = none) (hlt : nm < h.next) :
  ∃ v' w' π', (execOp ρ' o).run P w = .ok (.value v') w' ∧ VR π' v v' ∧ Step G I (fun n => n = nm) π h w π' (h.put nm (some b)) w' := by
 obtain ⟨dst, op, type, pos, after, guard⟩ := o
 simp only at hm hρ
 unfold makeV at hm
 split at hm
 ·rename_i e
  cases hg : Γ e with
  | none => rw [hg] at hm; cases hm
  | some i =>
   rw [hg] at hm
   injection hm with hm; injection hm with h1 h2; subst h1; subst h2
   obtain ⟨z, hz1, hz2, hz3⟩ := K.zero (π := π) hg
   refine ⟨.pointer (some ⟨w.heap.size, 0, none⟩), w.alloc (.cells z.cells e), _, ?_, ?_, new_step hI r (c := z.cells) (e := e) (fr := (0, 0)) rfl hn hlt (cs' := i.zero) (tail := []) (by rw [hz1]; simp) hz2 (by intro j _; omega)⟩
   ·simp [execOp, Instr.alloc, hz3, newVar, newRow]
   ·exact vptr (p := ⟨w.heap.size, 0, z.cells.size⟩) (by simp) 0
 ·rename_i e x
  split at hm
  ·rename_i hv
   injection hm with hm; injection hm with h1 h2; subst h1; subst h2
   have hx : VR π (ρ x) (ρ' x) := hρ _ (by simp [Op.operands])
   refine ⟨.pointer (some ⟨w.heap.size, 0, none⟩), w.alloc (.cells (ρ' x).cells e), _, ?_, ?_, new_step hI r (c := (ρ' x).cells) (e := e) (fr := (0, 0)) rfl hn hlt (cs' := (ρ' x).cells.toList) (tail := []) (by simp) (hx.a hv).cells (by intro j _; omega)⟩
   ·simp [execOp, Instr.box, newVar, newRow]
   ·exact vptr (p := ⟨w.heap.size, 0, (ρ' x).cells.size⟩) (by simp) 0
  ·cases hm
 ·rename_i t len parts
  split at hm
  ·rename_i e _ _ _ hs
   obtain ⟨d1, hd1, hsh⟩ := K.under hs
   simp only [ShOk] at hsh; subst hsh
   split at hm
   ·rename_i i hi
    split at hm
    ·cases hm
    ·rename_i hc
     cases hfill : fillL (fun j => some (j * i.size, i.size)) (repZ i.zero len) (parts.toList.map fun p => (p.1, ρ p.2)) with
     | none => rw [hfill] at hm; cases hm
     | some cs =>
      rw [hfill] at hm
      injection hm with hm; injection hm with h1 h2; subst h1; subst h2
      obtain ⟨z, hz1, hz2, hz3⟩ := K.zero (π := π) hi
      have hzs : z.cells.size = i.size := by rw [hz1]; simp; omega
      have hparts : All2 (fun a b : Nat × Value => a.1 = b.1 ∧ VR π a.2 b.2) (parts.toList.map fun p => (p.1, ρ p.2)) ((parts.map fun (x : Nat × Operand) => (x.1, ρ' x.2)).toList) := by
       rw [Array.toList_map]
       apply All2.of (by simp)
       intro i a b ha hb
       rw [List.getElem?_map] at ha hb
       cases hl : parts.toList[i]? with
       | none => rw [hl] at ha; cases ha
       | some x =>
        rw [hl] at ha hb
        injection ha with ha; injection hb with hb
        subst ha; subst hb
        have hm : x ∈ parts.toList := List.mem_of_getElem? hl
        exact ⟨rfl, hρ _ (by simp [Op.operands]; exact ⟨x.1, by simpa using hm⟩)⟩
      have hzz : All2 (VR1 π) (repZ i.zero len) ((Array.range (len * i.size)).map (fun j => z.cells[j % z.cells.size]!)).toList := by
       rw [← hzs, zeros_eq, hz1]
       exact All2.rep hz2 len
      obtain ⟨cs', hcs1, hcs2⟩ := fillL_sound hfill hparts hzz
      have hcl : cs.length = len * i.size := by
       have q : ∀ (ps : List (Nat × Value)) (c0 c1 : List Value), fillL (fun j => some (j * i.size, i.size)) c0 ps = some c1 → c1.length = c0.length := by
        intro ps
        induction ps with
        | nil => intro c0 c1 hh; injection hh with hh; rw [hh]
        | cons a ps ih =>
         intro c0 c1 hh
         unfold fillL at hh
         simp only at hh
         split at hh
         ·rename_i hq
          rw [ih _ _ hh, splice_length (by simpa using hq.2.2)]
         ·cases hh
       rw [q _ _ _ hfill, repZ_length]
       congr 1
       omega
      have hsz' : cs'.size = len * i.size := by have := hcs2.length; simp at this; omega
      refine ⟨.slice (some ⟨w.heap.size, 0, none⟩) len len, w.alloc (.cells cs' e), _, ?_, ?_, new_step hI r (c := cs') (e := e) (fr := (0, 0)) rfl hn hlt (cs' := cs'.toList) (tail := []) (by simp) hcs2 (by intro j _; omega)⟩
      ·have hne : ¬ (len * i.size > 2 ^ 24) := by omega
       have hz0 : (do if len * i.size = 0 then pure #[] else do pure (← zeroValue e).cells : Sem (Array Value)).run P w = .ok (if len * i.size = 0 then #[] else z.cells) w := by
        split
        ·rfl
        ·simp [hz3]
       have hz4 : ((Array.range (len * i.size)).map (fun j => (if len * i.size = 0 then #[] else z.cells)[j % (if len * i.size = 0 then #[] else z.cells).size]!)) = ((Array.range (len * i.size)).map (fun j => z.cells[j % z.cells.size]!)) := by
        by_cases q : len * i.size = 0
        ·simp [q, Array.range_zero']
        ·simp [q]
       simp only [execOp, Instr.buildSlice, Sem.run_bind, run_underlying hd1, Result.andThen_ok, K.size hi, if_neg hne]
       by_cases q : len * i.size = 0
       ·simp only [if_pos q, Sem.run_pure, Result.andThen_ok]
        have hz5 : ((Array.range (len * i.size)).map (fun j => (#[] : Array Value)[j % (#[] : Array Value).size]!)) = ((Array.range (len * i.size)).map (fun j => z.cells[j % z.cells.size]!)) := by
         rw [q, Array.range_zero']; simp
        simp only [Sem.run_bind, Sem.run_pure, Result.andThen_ok]
        rw [hz5, hcs1]
        rfl
       ·simp only [if_neg q, hz3, Sem.run_bind, Result.andThen_ok, Sem.run_pure]
        simp only [hcs1]
        rfl
      ·exact vslice_new (by simp) (Nat.le_refl _) hsz'.symm
   ·cases hm
  ·cases hm
 ·rename_i t l c
  split at hm
  ·rename_i e _ _ _ k1 n k2 m hs hl hc
   obtain ⟨d1, hd1, hsh⟩ := K.under hs
   simp only [ShOk] at hsh; subst hsh
   split at hm
   ·rename_i i hi
    split at hm
    ·rename_i hcond
     obtain ⟨c1, c2, c3, c4, c5, c6⟩ := hcond
     injection hm with hm; injection hm with h1 h2; subst h1; subst h2; subst c1
     have hx1 : VR π (ρ l) (ρ' l) := hρ _ (by simp [Op.operands])
     have hx2 : VR π (ρ c) (ρ' c) := hρ _ (by simp [Op.operands])
     rw [hl] at hx1; rw [hc] at hx2
     have e1 : ρ' l = .int k1 n := hx1
     have e2 : ρ' c = .int k2 n := hx2
     obtain ⟨inf, f1, f2, f3, ⟨z, f4, f5⟩, f6, _⟩ := K.ty e i hi
     have hzs : z.cells.size = i.size := by rw [f5]; simpa using c6
     have hrun := run_make (P := P) w t e inf z hd1 f1 f4 k1 k2 n n c2 (Int.le_refl _) (by rw [f3]; exact c4) (by omega)
     have hcl : (madeCells z.cells (n.toNat * inf.size)).toList = repZ i.zero n.toNat := by
      unfold madeCells
      rw [f2, ← hzs, zeros_eq, f5]
     have hzz : All2 (VR1 π) (repZ i.zero n.toNat) (repZ i.zero n.toNat) := All2.rep (All2.refl fun v hv => plainV_self (f6 v hv)) _
     have hst := new_step hI r (w' := w.alloc (.cells (madeCells z.cells (n.toNat * inf.size)) e)) (c := madeCells z.cells (n.toNat * inf.size)) (e := e) (fr := (0, 0)) rfl hn hlt (b := { cells := repZ i.zero n.toNat, rw := true }) (cs' := repZ i.zero n.toNat) (tail := []) (by rw [hcl]; simp) hzz (by intro j _; omega)
     refine ⟨.slice (some ⟨w.heap.size, 0, none⟩) n.toNat n.toNat, _, _, ?_, ?_, hst⟩
     ·simp only [execOp, e1, e2, Sem.run_bind, hrun, Result.andThen_ok, Sem.run_pure]
     ·exact vslice_new (ext := (madeCells z.cells (n.toNat * inf.size)).size) (by simp) (Nat.le_refl _) (by rw [size_madeCells, f2])
    ·cases hm
   ·cases hm
  ·cases hm
 ·rename_i s d x
  split at hm
  ·rename_i e _ _ _ b0 hs hd hx
   obtain ⟨d1, hd1, hsh⟩ := K.under hs
   obtain ⟨d2, hd2, hsh2⟩ := K.under hd
   simp only [ShOk] at hsh hsh2; subst hsh; subst hsh2
   split at hm
   ·rename_i zz he
    obtain ⟨d3, hd3, hsh3⟩ := K.under he
    simp only [ShOk] at hsh3; subst hsh3
    injection hm with hm; injection hm with h1 h2; subst h1; subst h2
    have hx1 : VR π (ρ x) (ρ' x) := hρ _ (by simp [Op.operands])
    rw [hx] at hx1
    have e1 : ρ' x = .string b0 := hx1
    have hrun := run_bytes_of_string (P := P) w s d e b0 hd1 hd2 hd3
    have hst := new_step hI r (w' := w.drew.alloc (.cells (bytesRow b0 (grownCap w b0.size 0 e)) e ((bytesRow b0 (grownCap w b0.size 0 e)).size, (bytesRow b0 (grownCap w b0.size 0 e)).size + 1)))
      (c := bytesRow b0 (grownCap w b0.size 0 e)) (e := e) (fr := ((bytesRow b0 (grownCap w b0.size 0 e)).size, (bytesRow b0 (grownCap w b0.size 0 e)).size + 1)) rfl hn hlt
      (b := { cells := b0.data.toList.map fun x => .int .u8 x.toNat, rw := true }) (cs' := b0.data.toList.map fun x => .int .u8 x.toNat) (tail := (Array.replicate (grownCap w b0.size 0 e - b0.size) (Value.int .u8 0)).toList) (by simp [bytesRow])
      (All2.refl fun v hv => by
       obtain ⟨x, _, rfl⟩ := List.mem_map.1 hv
       rfl) (by intro j hj; simp at hj ⊢; omega)
    refine ⟨.slice (some ⟨w.heap.size, 0, none⟩) b0.size (grownCap w b0.size 0 e), _, _, by simp only [execOp, e1, Sem.run_bind, hrun, Result.andThen_ok, Sem.run_pure], ?_, hst⟩
    have hcap : b0.size ≤ grownCap w b0.size 0 e := by simp [grownCap, Question.cut]
    refine vslice_new (ext := (bytesRow b0 (grownCap w b0.size 0 e)).size) (by simp) hcap ?_
    have : b0.data.size = b0.size := rfl
    simp [bytesRow, this]; omega
   ·cases hm
  ·cases hm
 ·cases hm
theorem tail_sound (K : Know P Γ E) (r : Rep G I π h w) {i : TI} {t2 : TypeId} {x x' : Value} {cs : List Value} {k : Nat} (ht : tailV i (Γ t2) x h = some (cs, k)) (hx : VR π x x') :
  ∃ (cs' : List Value) (d : TypeDesc), P.underlying t2 = some d ∧ (∀ q, d ≠ .int q) ∧ All2 (VR1 π) cs cs' ∧ cs.length = k * i.size ∧ (∀ w', (Builtin.lenOf x').run P w' = .ok k w') ∧
   ∀ w', w'.heap = w.heap → (Builtin.firstCells i.size k x').run P w' = .ok cs'.toArray w' := by
 unfold tailV at ht
 split at ht
 ·rename_i hg
  obtain ⟨d, hd, hsh⟩ := K.under hg
  simp only [ShOk] at hsh; subst hsh
  injection ht with ht; injection ht with h1 h2; subst h1; subst h2
  have := nil_at hx
  subst this
  exact ⟨[], _, hd, fun q hq => (by cases hq), trivial, by simp, fun w' => rfl, fun w' _ => by simp [Builtin.firstCells]⟩
 ·rename_i n o k' c hg
  obtain ⟨d, hd, hsh⟩ := K.under hg
  simp only [ShOk] at hsh; subst hsh
  obtain ⟨p, a, c', hp, rfl, hk, ha, hU, hE⟩ : VR1 π (.slice (some ⟨n, o, none⟩) k' c) x' := hx
  by_cases hk0 : k' = 0
  ·subst hk0
   rw [if_pos rfl] at ht
   injection ht with ht; injection ht with h1 h2; subst h1; subst h2
   refine ⟨[], _, hd, fun q hq => (by cases hq), trivial, by simp, fun w' => rfl, fun w' hw' => ?_⟩
   apply run_firstCells_some
   ·simp
   ·intro j v hj; simp at hj
  rw [if_neg hk0] at ht
  cases hc : h.cells n o (k' * i.size) with
  | none => rw [hc] at ht; cases ht
  | some cs0 =>
   rw [hc] at ht
   injection ht with ht; injection ht with h1 h2; subst h1; subst h2
   obtain ⟨q1, cs', q2, q3⟩ := r.cells hc hp
   refine ⟨cs', _, hd, fun q hq => (by cases hq), q2, q1, fun w' => rfl, fun w' hw' => ?_⟩
   apply run_firstCells_some
   ·rw [← q2.length, q1]
   ·intro j v hj
    have hne : c' ≠ 0 := by
     intro h0
     have : k' = 0 := by omega
     subst this
     simp at q1
     rw [q1] at q2
     have := q2.length
     have h3 := (List.getElem?_eq_some_iff.1 hj).1
     simp at this; omega
    rw [ha hne, Addr.add_lit]
    have := q3 j v hj
    unfold World.cell? at this ⊢
    rw [hw']; exact this
 ·rename_i s hg
  obtain ⟨d, hd, hsh⟩ := K.under hg
  simp only [ShOk] at hsh; subst hsh
  have : x' = .string s := hx
  subst this
  split at ht
  ·rename_i hi
   injection ht with ht; injection ht with h1 h2; subst h1; subst h2
   refine ⟨s.data.toList.map fun b => .int .u8 b.toNat, _, hd, fun q hq => (by cases hq), All2.refl ?_, ?_, fun w' => rfl, fun w' _ => ?_⟩
   ·intro v hv
    obtain ⟨x, _, rfl⟩ := List.mem_map.1 hv
    rfl
   ·rw [hi]; simp
   ·have hs : (s.extract 0 s.size) = s := by simp
    simp [Builtin.firstCells, hs]
    apply Array.ext'
    simp
  ·cases ht
 ·cases ht
end
end Go.Proofs.YtonpnjfclelpiaaGreatM
