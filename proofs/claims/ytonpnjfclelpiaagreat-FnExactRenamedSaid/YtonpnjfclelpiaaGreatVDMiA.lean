import Derived.Test.YtonpnjfclelpiaaGreatVDMiO
namespace Go.Proofs.YtonpnjfclelpiaaGreatM
open Go
set_option linter.unusedVariables false
set_option linter.unusedSimpArgs false
section
variable {P : Program} {Γ : TypeId → Option TI} {E : TypeId → Nat} {G : Nat} {I : World → Prop} {π : Nat → Option Pl} {h : Hp} {w : World}
theorem ren_step (r : Rep G I π h w) {n nm o : Nat} {b : Blk} {p : Pl} (hb : h.blk n = some b) (hrw : b.rw = true) (hp : π n = some p) (hn : π nm = none) (hlt : nm < h.next) (ho : o ≤ b.cells.length) :
  Step G I (fun n => n = nm) π h w (fun m => if m = nm then some ⟨p.blk, p.off + o, p.ext - o⟩ else π m) ((h.put n none).put nm (some { cells := b.cells.drop o, rw := true })) w := by
 have hne : n ≠ nm := fun x => by rw [x, hn] at hp; cases hp
 have le : Le π (fun m => if m = nm then some ⟨p.blk, p.off + o, p.ext - o⟩ else π m) := by
  intro m q hq
  have : m ≠ nm := fun x => by rw [x, hn] at hq; cases hq
  simp [this, hq]
 have key : ∀ m bm, ((h.put n none).put nm (some { cells := b.cells.drop o, rw := true })).blk m = some bm → (m = nm ∧ bm = { cells := b.cells.drop o, rw := true }) ∨ (m ≠ nm ∧ m ≠ n ∧ h.blk m = some bm) := by
  intro m bm hm
  by_cases hx : m = nm
  ·simp [Hp.put, hx] at hm; exact .inl ⟨hx, hm.symm⟩
  ·by_cases hy : m = n
   ·simp [Hp.put, hx, hy, hne] at hm
   ·simp [Hp.put, hx, hy] at hm; exact .inr ⟨hx, hy, hm⟩
 obtain ⟨q, hq, h1, c, e, fr, h2, h3, h4⟩ := r.pl n b hb
 rw [hp] at hq; injection hq with hq; subst hq
 refine ⟨⟨?_, ?_, ?_, r.big, ?_, r.inv⟩, ?_, le, Nat.le_refl _, fun _ _ _ => rfl, ?_, Nat.le_refl _⟩
 ·intro m q hq
  by_cases hx : m = nm
  ·subst hx; simp at hq; subst hq; exact ⟨hlt, (r.dom n p hp).2⟩
  ·simp [hx] at hq; exact r.dom m q hq
 ·intro m bm hm
  rcases key m bm hm with ⟨rfl, rfl⟩ | ⟨k1, k2, k3⟩
  ·refine ⟨⟨p.blk, p.off + o, p.ext - o⟩, by simp, by simp; omega, c, e, fr, h2, ?_, fun _ => ?_⟩
   ·intro i v hi
    simp only [List.getElem?_drop] at hi
    obtain ⟨v', q1, q2⟩ := h3 (o + i) v hi
    exact ⟨v', by rw [← q1]; congr 1; simp; omega, q2.mono le⟩
   ·obtain ⟨q1, q2⟩ := h4 hrw
    refine ⟨by simp; omega, fun i hi => ?_⟩
    have := q2 (o + i) (by simp at hi; omega)
    simpa [Nat.add_assoc] using this
  ·obtain ⟨q, hq, q1, c2, e2, fr2, q2, q3, q4⟩ := r.pl m bm k3
   refine ⟨q, by simp [k1, hq], q1, c2, e2, fr2, q2, fun i v hi => ?_, q4⟩
   obtain ⟨v', s1, s2⟩ := q3 i v hi
   exact ⟨v', s1, s2.mono le⟩
 ·intro a m ba bm q1 q2 hne2 k1 k2 k3 k4 k5
  rcases key a ba k1 with ⟨rfl, rfl⟩ | ⟨s1, s2, s3⟩ <;> rcases key m bm k3 with ⟨rfl, rfl⟩ | ⟨t1, t2, t3⟩
  ·exact absurd rfl hne2
  ·simp at k4; subst k4
   simp [t1] at k5
   exact r.uniq n m b bm p q2 (Ne.symm t2) hb hrw t3 hp k5
  ·simp at k5; subst k5
   simp [s1] at k4
   exact r.uniq a n ba b q1 p s2 s3 k2 hb k4 hp
  ·simp [s1] at k4
   simp [t1] at k5
   exact r.uniq a m ba bm q1 q2 hne2 s3 k2 t3 k4 k5
 ·intro m bm q k1 k2 k3
  rcases key m bm k1 with ⟨rfl, rfl⟩ | ⟨s1, s2, s3⟩
  ·simp at k3; subst k3; exact r.rwG n b p hb hrw hp
  ·simp [s1] at k3; exact r.rwG m bm q s3 k2 k3
 ·intro m _ hx; simp [hx]
 ·intro m bm q k1 k2
  rcases key m bm k1 with ⟨rfl, rfl⟩ | ⟨s1, s2, s3⟩
  ·simp at k2; subst k2; exact .inr ⟨n, b, p, hb, hrw, hp, rfl⟩
  ·simp [s1] at k2; exact .inr ⟨m, bm, q, s3, rfl, k2, rfl⟩
theorem app_room {ts : Array TypeId} {ty t t2 e : TypeId} {d2 : TypeDesc} {args : Array Value} {x' : Value} {base : Option Addr} {sLen sCap size k : Nat} {news : List Value}
  (h0 : ts[0]? = some t) (h1 : ts[1]? = some t2) (a0 : args[0]? = some (.slice base sLen sCap)) (a1 : args[1]? = some x') (ht : P.underlying t = some (.slice e)) (h2 : P.underlying t2 = some d2) (hq : ∀ q, d2 ≠ .int q)
  (hsz : ∀ w, (sizeOf e).run P w = .ok size w) (hk : ∀ w', (Builtin.lenOf x').run P w' = .ok k w') (hf : ∀ w', w'.heap = w.heap → (Builtin.firstCells size k x').run P w' = .ok news.toArray w') (hr : sLen + k ≤ sCap) {w' : World}
  (hst : match base with | some a => (storeCells (a.add (sLen * size)) news).run P w = .ok () w' | none => w' = w) :
  (Builtin.append_ ts ty args).run P w = .ok (.slice base (sLen + k) sCap) w' := by
 have hz : ((match d2 with | .int _ => true | _ => false) : Bool) = false := by cases d2 <;> first | rfl | exact absurd rfl (hq _)
 unfold Builtin.append_
 simp only [h0, h1, a0, a1, Sem.run_bind, run_underlying ht, run_underlying h2, Result.andThen_ok, hsz, Sem.run_pure]
 simp only [hz, Bool.false_eq_true, if_false, hk, Result.andThen_ok, if_pos hr, Sem.run_bind, Bool.not_false, if_true, hf w rfl]
 cases base with
 | none => simp at hst; subst hst; simp
 | some a => simp at hst; simp [hst]
theorem app_grow {ts : Array TypeId} {ty t t2 e : TypeId} {d2 : TypeDesc} {args : Array Value} {x' z : Value} {base : Option Addr} {sLen sCap size k bytes : Nat} {olds news : List Value}
  (h0 : ts[0]? = some t) (h1 : ts[1]? = some t2) (a0 : args[0]? = some (.slice base sLen sCap)) (a1 : args[1]? = some x') (ht : P.underlying t = some (.slice e)) (h2 : P.underlying t2 = some d2) (hq : ∀ q, d2 ≠ .int q)
  (hsz : ∀ w, (sizeOf e).run P w = .ok size w) (hby : ∀ w, ((do pure (← typeInfo e).bytes) : Sem Nat).run P w = .ok bytes w) (hz0 : ∀ w, (zeroValue e).run P w = .ok z w)
  (hk : ∀ w', (Builtin.lenOf x').run P w' = .ok k w') (hf : ∀ w', w'.heap = w.heap → (Builtin.firstCells size k x').run P w' = .ok news.toArray w')
  (hfo : ∀ w', w'.heap = w.heap → (Builtin.firstCells size sLen (.slice base sLen sCap)).run P w' = .ok olds.toArray w') (hr : sCap < sLen + k) (hb : (sLen + k) * bytes ≤ 140737488355328) (hbp : 0 < bytes) :
  (Builtin.append_ ts ty args).run P w = .ok (.slice (some ⟨w.heap.size, 0, none⟩) (sLen + k) (grownCap w (sLen + k) sCap e))
   (w.drew.alloc (.cells (olds.toArray ++ news.toArray ++ Builtin.zeroCells z.cells (grownCap w (sLen + k) sCap e - (sLen + k))) e)) := by
 have hz : ((match d2 with | .int _ => true | _ => false) : Bool) = false := by cases d2 <;> first | rfl | exact absurd rfl (hq _)
 have hnr : ¬ (sLen + k ≤ sCap) := by omega
 have hfit := growslice_fits hr hb
 have hby' : ∀ w, (typeInfo e).run P w = .ok ((P.info? e).getD default) w ∧ ((P.info? e).getD default).bytes = bytes := by
  intro w
  have := hby w
  unfold typeInfo at this ⊢
  simp only [Sem.run_bind, run_program, Result.andThen_ok] at this ⊢
  cases hi : P.info? e with
  | none => rw [hi] at this; simp at this
  | some i => rw [hi] at this; simp at this; simp [this]
 have n1 : ¬ (((sLen + k : Nat) : Int) > IntKind.i64.max ∧ (((false : Bool) = true) ∨ ((P.info? e).getD default).bytes = 0)) := by
  rintro ⟨_, h | h⟩
  ·cases h
  ·rw [(hby' w).2] at h; omega
 have n2 : ¬ (Builtin.nextslicecap (sLen + k) sCap * ((P.info? e).getD default).bytes > 2 ^ 48) := by rw [(hby' w).2]; omega
 unfold Builtin.append_
 simp only [h0, h1, a0, a1, Sem.run_bind, run_underlying ht, run_underlying h2, Result.andThen_ok, hsz, Sem.run_pure]
 simp only [hz, Bool.false_eq_true, if_false, hk, Result.andThen_ok, if_neg hnr, Sem.run_bind, Bool.not_false, if_true, (hby' w).1]
 simp only [Bool.false_eq_true] at n1
 simp only [if_neg n1, if_neg n2, Sem.run_bind, run_choose_drew, Question.forced, Bool.false_eq_true, if_false, Result.andThen_ok]
 have e1 : (World.drew w).heap = w.heap := rfl
 have hb1 : ∀ w', (typeInfo e).run P w' = .ok ((P.info? e).getD default) w' := fun w' => (hby' w').1
 simp only [hb1, Result.andThen_ok, run_askRoom, hf _ e1, hfo _ e1, hz0, newRow, Sem.run_bind, run_newObj_alloc, Sem.run_pure]
 have n3 : ¬ (281474976710656 < Builtin.nextslicecap (sLen + k) sCap * ((P.info? e).getD default).bytes) := by rw [(hby' w).2]; omega
 have nf : (Question.appendCap (sLen + k) sCap e).forced = false := rfl
 simp only [nf, Bool.false_eq_true, if_false, if_neg n3, hb1, Result.andThen_ok, run_askRoom, hf _ e1, hfo _ e1, hz0, Sem.run_bind, run_newObj_alloc, Sem.run_pure]
 have hch : (choose (.appendCap (sLen + k) sCap e)).run P w = .ok (grownCap w (sLen + k) sCap e) w.drew := by
  rw [run_choose_drew]; rfl
 rw [hch]
 simp only [Result.andThen_ok, hfo _ e1, hf _ e1]
 rfl
theorem vnil : VR π (.slice none 0 0) (.slice none 0 0) := show VR1 π (.slice none 0 0) (.slice none 0 0) from rfl
theorem Step.drop {N : Nat → Prop} {π' : Nat → Option Pl} {h' : Hp} {w' : World} (s : Step G I N π h w π' h' w') (n : Nat) : Step G I N π h w π' (h'.put n none) w' := by
 have key : ∀ m b, (h'.put n none).blk m = some b → h'.blk m = some b := by
  intro m b hm
  by_cases hx : m = n
  ·simp [Hp.put, hx] at hm
  ·simpa [Hp.put, hx] using hm
 exact ⟨⟨s.rep.dom, fun m b hm => s.rep.pl m b (key m b hm), fun a m ba bm p q hne k1 k2 k3 k4 k5 => s.rep.uniq a m ba bm p q hne (key _ _ k1) k2 (key _ _ k3) k4 k5, s.rep.big,
  fun m b p k1 k2 k3 => s.rep.rwG m b p (key _ _ k1) k2 k3, s.rep.inv⟩, s.same, s.le, s.grow, s.keep, fun m b q k1 k2 => s.prov m b q (key _ _ k1) k2, s.nx⟩
theorem Hp.put_comm (h : Hp) {n m : Nat} (b c : Option Blk) (hne : n ≠ m) : (h.put n b).put m c = (h.put m c).put n b := by
 unfold Hp.put
 congr 1
 funext x
 by_cases h1 : x = m
 ·subst h1; simp [Ne.symm hne]
 ·simp [h1]
theorem Hp.put_put (h : Hp) (n : Nat) (b c : Option Blk) : (h.put n b).put n c = h.put n c := by
 unfold Hp.put
 congr 1
 funext x
 by_cases h1 : x = n <;> simp [h1]
theorem grow_step (hI : Low G I) (r : Rep G I π h w) {nm k cap e : Nat} {ol cs olds news : List Value} {z : Value} {size : Nat} (hn : π nm = none) (hlt : nm < h.next) (h1 : All2 (VR1 π) ol olds) (h2 : All2 (VR1 π) cs news)
  (hl : olds.length + news.length = k * size) (hz : z.cells.size = size) (hc : k ≤ cap) :
  ∃ π', VR π' (.slice (some ⟨nm, 0, none⟩) k (U size)) (.slice (some ⟨w.heap.size, 0, none⟩) k cap) ∧
   Step G I (fun n => n = nm) π h w π' (h.put nm (some { cells := ol ++ cs, rw := true })) (w.drew.alloc (.cells (olds.toArray ++ news.toArray ++ Builtin.zeroCells z.cells (cap - k)) e)) := by
 have hsz : (olds.toArray ++ news.toArray ++ Builtin.zeroCells z.cells (cap - k)).size = cap * size := by
  simp [size_zeroCells, hz]
  rw [hl, ← Nat.add_mul]
  congr 1; omega
 have hst := new_step hI r (w' := w.drew.alloc (.cells (olds.toArray ++ news.toArray ++ Builtin.zeroCells z.cells (cap - k)) e)) (e := e) (fr := (0, 0)) rfl hn hlt (b := { cells := ol ++ cs, rw := true })
  (cs' := olds ++ news) (tail := (Builtin.zeroCells z.cells (cap - k)).toList) (by simp) (h1.append h2) (by intro j _; omega)
 exact ⟨_, vslice_new (ext := (olds.toArray ++ news.toArray ++ Builtin.zeroCells z.cells (cap - k)).size) (by simp) hc hsz.symm, hst⟩
theorem append_sound (hI : Low G I) (K : Know P Γ E) (r : Rep G I π h w) {argTypes : Array TypeId} {as : Array Value} {ty t t2 : TypeId} {s s' x x' v : Value} {nm : Nat} {h' : Hp}
  (ha : appendV Γ nm t t2 s x h = some (v, h')) (hs : VR π s s') (hx : VR π x x') (hn : π nm = none) (hlt : nm < h.next)
  (h0 : argTypes[0]? = some t) (h1 : argTypes[1]? = some t2) (a0 : as[0]? = some s') (a1 : as[1]? = some x') :
  ∃ v' w' π', (Builtin.append_ argTypes ty as).run P w = .ok v' w' ∧ VR π' v v' ∧ Step G I (fun n => n = nm) π h w π' h' w' := by
 unfold appendV at ha
 split at ha
 ·rename_i e _ _ _ hg
  obtain ⟨d, hd, hsh⟩ := K.under hg
  simp only [ShOk] at hsh; subst hsh
  split at ha
  ·rename_i i hi
   split at ha
   ·rename_i cs k htl
    obtain ⟨cs', d2, hd2, hq, hcs, hcl, hlen, hfc⟩ := tail_sound K r htl hx
    have hsz := fun w => K.size hi w
    obtain ⟨inf, f1, f2, f3, ⟨z, f4, f5⟩, f6, _⟩ := K.ty e i hi
    have hby : ∀ w, ((do pure (← typeInfo e).bytes) : Sem Nat).run P w = .ok i.bytes w := fun w => by simp [typeInfo, f1, f3]
    have hz0 : ∀ w, (zeroValue e).run P w = .ok z w := fun w => by simp [zeroValue, typeInfo, f1, f4]
    split at ha
    ·cases ha
    ·rename_i hc
     have c1 : i.size ≠ 0 := by omega
     have c2 : i.bytes ≤ 65536 := by omega
     have c3 : i.zero.length = i.size := by omega
     have c4 : 0 < i.bytes := by omega
     have hzs : z.cells.size = i.size := by rw [f5]; simpa using c3
     split at ha
     ·have := nil_at hs
      subst this
      split at ha
      ·rename_i hk
       injection ha with ha; injection ha with g1 g2; subst g1; subst g2; subst hk
       refine ⟨.slice none 0 0, w, π, ?_, vnil, Step.refl r⟩
       exact app_room h0 h1 a0 a1 hd hd2 hq hsz hlen hfc (by omega) rfl
      ·split at ha
       ·cases ha
       ·rename_i hk hk2
        injection ha with ha; injection ha with g1 g2; subst g1; subst g2
        have hrun := app_grow (P := P) (ty := ty) (w := w) (olds := []) h0 h1 a0 a1 hd hd2 hq hsz hby hz0 hlen hfc (fun w' _ => by simp [Builtin.firstCells]) (by omega) (by
         have : (0 + k) * i.bytes ≤ 1073741824 * 65536 := Nat.mul_le_mul (by omega) c2
         omega) c4
        obtain ⟨π', q1, q2⟩ := grow_step hI r (e := e) (k := k) (cap := grownCap w (0 + k) 0 e) hn hlt (ol := []) (olds := []) trivial hcs (by rw [← hcs.length, hcl]; simp) hzs (by simp [grownCap, Question.cut])
        refine ⟨_, _, π', hrun, ?_, ?_⟩
        ·simpa using q1
        ·simpa using q2
     ·rename_i n o len c
      obtain ⟨p, a, c', hp, rfl, hk, haa, hU, hE⟩ : VR1 π (.slice (some ⟨n, o, none⟩) len c) s' := hs
      split at ha
      ·rename_i hk0
       injection ha with ha; injection ha with g1 g2; subst g1; subst g2; subst hk0
       have hcs0 : cs' = [] := by
        have := hcs.length
        rw [hcl] at this
        simp at this
        exact List.eq_nil_of_length_eq_zero this.symm
       subst hcs0
       refine ⟨.slice (some a) len c', w, π, ?_, vslice hp hk haa hU hE, Step.refl r⟩
       exact app_room h0 h1 a0 a1 hd hd2 hq hsz hlen hfc (by omega) rfl
      ·rename_i hk0
       split at ha
       ·rename_i b hb
        split at ha
        ·cases ha
        ·rename_i hc2
         have b1 : (len + k) * i.bytes ≤ 140737488355328 := by
          have : (len + k) * i.bytes ≤ 1073741824 * 65536 := Nat.mul_le_mul (by omega) c2
          omega
         have hold : h.cells n o (len * i.size) = some ((b.cells.drop o).take (len * i.size)) := by
          unfold Hp.cells
          rw [hb]
          simp only [Option.bind_some]
          rw [if_pos (by omega)]
         obtain ⟨s1, olds, s2, s3⟩ := r.cells hold hp
         have hfo : ∀ w', w'.heap = w.heap → (Builtin.firstCells i.size len (.slice (some a) len c')).run P w' = .ok olds.toArray w' := by
          intro w' hw'
          apply run_firstCells_some
          ·rw [← s2.length, s1]
          ·intro j v hj
           have hne : c' ≠ 0 := by
            intro hz1
            have : len = 0 := by omega
            subst this
            simp at s1
            have h3 := (List.getElem?_eq_some_iff.1 hj).1
            have := s2.length
            simp at this
            omega
           rw [haa hne, Addr.add_lit]
           have := s3 j v hj
           unfold World.cell? at this ⊢
           rw [hw']; exact this
         have hgrow : c' < len + k → ∃ v' w' π', (Builtin.append_ argTypes ty as).run P w = .ok v' w' ∧ VR π' (.slice (some ⟨nm, 0, none⟩) (len + k) (U i.size)) v' ∧
           Step G I (fun n => n = nm) π h w π' (h.put nm (some { cells := (b.cells.drop o).take (len * i.size) ++ cs, rw := true })) w' := by
          intro hlt2
          have hrun := app_grow (P := P) (ty := ty) (w := w) h0 h1 a0 a1 hd hd2 hq hsz hby hz0 hlen hfc hfo hlt2 b1 c4
          obtain ⟨π', q1, q2⟩ := grow_step hI r (e := e) (k := len + k) (cap := grownCap w (len + k) c' e) hn hlt s2 hcs (by rw [← hcs.length, ← s2.length, hcl, s1, Nat.add_mul]) hzs (by simp [grownCap, Question.cut])
          exact ⟨_, _, π', hrun, q1, q2⟩
         split at ha
         ·rename_i hcU
          have hext := hU _ hcU
          split at ha
          ·cases ha
          ·rename_i hrw0
           have hrw : b.rw = true := by simpa using hrw0
           split at ha
           ·rename_i hin
            injection ha with ha; injection ha with g1 g2; subst g1; subst g2
            obtain ⟨pq, hpq, e1, _⟩ := r.pl n b hb
            rw [hp] at hpq; injection hpq with hpq; subst hpq
            have hroom : len + k ≤ c' := by
             have : (len + k) * i.size ≤ c' * i.size := by omega
             exact Nat.le_of_mul_le_mul_right this (by omega)
            have haddr := haa (by omega)
            subst haddr
            obtain ⟨w', q1, q2⟩ := write_step (P := P) hI r hb hrw hp hcs (o := o + len * i.size) (by rw [hcl]; rw [Nat.add_mul] at hin; omega) (fun n => n = nm)
            refine ⟨.slice (some ⟨p.blk, p.off + o, none⟩) (len + k) c', w', π, ?_, ?_, q2⟩
            ·refine app_room h0 h1 a0 a1 hd hd2 hq hsz hlen hfc hroom ?_
             simp only [Addr.add_lit]
             rw [Nat.add_assoc]; exact q1
            ·exact vslice hp hroom (fun _ => rfl) (fun e he => hU e (hcU.trans he)) (fun hh => absurd hh (U_lt _))
           ·rename_i hin
            split at ha
            ·rename_i hend
             injection ha with ha; injection ha with g1 g2; subst g1; subst g2
             have htk : (b.cells.drop o).take (len * i.size) = b.cells.drop o := List.take_of_length_le (by simp; omega)
             have hnn : n ≠ nm := fun x => by rw [x, hn] at hp; cases hp
             by_cases hroom : len + k ≤ c'
             ·-- there is room in the machine's row
              obtain ⟨pq, hpq, e1, c0, ee, fr, e2, e3, e4⟩ := r.pl n b hb
              rw [hp] at hpq; injection hpq with hpq; subst hpq
              obtain ⟨e5, e6⟩ := e4 hrw
              have hm : (len + k) * i.size ≤ c' * i.size := Nat.mul_le_mul_right _ hroom
              have hm2 : (len + k) * i.size = len * i.size + k * i.size := Nat.add_mul _ _ _
              have haddr := haa (by omega)
              subst haddr
              have hcl' : cs'.length = k * i.size := by rw [← hcs.length, hcl]
              obtain ⟨w', c1', k1, k2, k3, k4, k5, k6⟩ := stores_run (P := P) cs' p.blk (p.off + o + len * i.size) 0 w c0 ee fr e2 (by omega) (fun j hj => by
               have := e6 (o + len * i.size + j) (by omega)
               rwa [show p.off + (o + len * i.size + j) = p.off + o + len * i.size + 0 + j by omega] at this) (VR1.all_one hcs)
              have hbd : p.off + o + len * i.size + 0 + cs'.length ≤ c0.toList.length := by simp; omega
              have hsz1 : c0.size = c1'.size := by
               have := splice_length hbd
               rw [← k4] at this
               simpa using this.symm
              have st1 := set_step hI r hb hrw hp (cs := b.cells ++ cs) ⟨c0, e2, hsz1⟩ k2 k3 k5 (by simp; omega) (by
               intro j v hv
               rw [← Array.getElem?_toList, k4, splice_get hbd]
               by_cases q1 : j < b.cells.length
               ·rw [List.getElem?_append_left q1] at hv
                rw [if_pos (by omega)]
                simpa using e3 j v hv
               ·rw [List.getElem?_append_right (by omega)] at hv
                have hj := (List.getElem?_eq_some_iff.1 hv).1
                rw [if_neg (by omega), if_pos (by omega), show p.off + j - (p.off + o + len * i.size + 0) = j - b.cells.length by omega]
                exact hcs.get _ v hv) (fun n => n = nm) k6
              have st2 := ren_step st1.rep (n := n) (nm := nm) (o := o) (b := { b with cells := b.cells ++ cs }) (p := p) (by simp [Hp.put]) hrw hp hn hlt (by simp; omega)
              have st3 := st1.trans st2
              refine ⟨.slice (some ⟨p.blk, p.off + o, none⟩) (len + k) c', w', (fun m => if m = nm then some ⟨p.blk, p.off + o, p.ext - o⟩ else π m), ?_, ?_, ?_⟩
              ·refine app_room h0 h1 a0 a1 hd hd2 hq hsz hlen hfc hroom ?_
               simp only [Addr.add_lit]
               exact k1
              ·exact vslice (p := ⟨p.blk, p.off + o, p.ext - o⟩) (by simp) hroom (fun _ => by simp) (fun e he => by rw [← U_inj he]; simp; omega) (fun hh => absurd hh (U_lt _))
              ·have e7 : ({ b with cells := b.cells ++ cs } : Blk).cells.drop o = b.cells.drop o ++ cs := by
                simp only
                rw [List.drop_append_of_le_length (by omega)]
               rw [e7, Hp.put_put] at st3
               exact st3.wk fun n _ hh => hh.elim id id
             ·obtain ⟨v', w', π', q1, q2, q3⟩ := hgrow (by omega)
              refine ⟨v', w', π', q1, q2, ?_⟩
              rw [htk] at q3
              have := q3.drop n
              rw [Hp.put_comm _ _ _ (Ne.symm hnn)] at this
              exact this
            ·cases ha
         ·split at ha
          ·cases ha
          ·rename_i hcc
           injection ha with ha; injection ha with g1 g2; subst g1; subst g2
           have := hE (by omega)
           exact hgrow (by omega)
       ·cases ha
     ·cases ha
   ·cases ha
  ·cases ha
 ·cases ha
def Gives (P : Program) (s : Sem Next) (w : World) (v : Value) (w' : World) : Prop := s.run P w = .ok (.value v) w' ∨ (s.run P w = .ok .skip w' ∧ v = undef)
theorem vundef : VR π undef undef := ⟨#[], rfl, trivial⟩
theorem clear_sound (hI : Low G I) (K : Know P Γ E) (r : Rep G I π h w) {t e : TypeId} {x' : Value} {a : Option Addr} {k c : Nat} {v : Value} {h' : Hp} {sz by' : Nat} {zz : List Value} (hg : Γ t = some ⟨.slice e, sz, by', zz⟩)
  (hc : (if k = 0 then some (Value.tuple #[], h) else match a, Γ e with
    | some ⟨n, o, none⟩, some i => (h.blk n).bind fun b => if b.rw ∧ i.zero.length = i.size ∧ o + k * i.size ≤ b.cells.length then some (.tuple #[], h.put n (some { b with cells := splice b.cells o (repZ i.zero k) })) else none
    | _, _ => none) = some (v, h')) (hx : VR π (.slice a k c) x') {ts : Array TypeId} {ty : TypeId} {as : Array Value} (h0 : ts[0]? = some t) (a0 : as[0]? = some x') (N : Nat → Prop) :
  ∃ w', (Builtin.clear_ ts ty as).run P w = .ok (.tuple #[]) w' ∧ v = .tuple #[] ∧ Step G I N π h w π h' w' := by
 obtain ⟨d, hd, hsh⟩ := K.under hg
 simp only [ShOk] at hsh; subst hsh
 split at hc
 ·rename_i hk
  injection hc with hc; injection hc with g1 g2; subst g1; subst g2; subst hk
  obtain ⟨a', l2, c2, rfl, _⟩ := slice_at hx
  have hl : l2 = 0 := by
   have h3 : VR1 π (.slice a 0 c) (.slice a' l2 c2) := hx
   unfold VR1 at h3
   split at h3 <;> first
    | (rename_i hh; cases hh; injection h3 with h4 h5; done)
    | (rename_i hh; cases hh; injection h3)
    | (rename_i hh; cases hh; obtain ⟨p, a1, c1, _, h4, _⟩ := h3; injection h4)
    | (rename_i hh; cases hh; done)
    | exact h3.elim
  subst hl
  refine ⟨w, ?_, rfl, Step.refl r⟩
  unfold Builtin.clear_
  simp only [h0, a0, Sem.run_bind, run_underlying hd, Result.andThen_ok]
  cases a' <;> rfl
 ·rename_i hk
  split at hc
  ·rename_i n o i hgi
   obtain ⟨p, a1, c', hp, rfl, hkc, haa, hU, hE⟩ : VR1 π (.slice (some ⟨n, o, none⟩) k c) x' := hx
   cases hb : h.blk n with
   | none => rw [hb] at hc; cases hc
   | some b =>
    rw [hb] at hc
    simp only [Option.bind_some] at hc
    split at hc
    ·rename_i hcond
     obtain ⟨hrw, hzl, hin⟩ := hcond
     injection hc with hc; injection hc with g1 g2; subst g1; subst g2
     obtain ⟨z, hz1, hz2, hz3⟩ := K.zero (π := π) hgi
     have haddr := haa (by omega)
     subst haddr
     have hzc : (Builtin.zeroCells z.cells k).toList = repZ i.zero k := by
      unfold Builtin.zeroCells
      rw [zeros_eq, hz1]
     obtain ⟨w', q1, q2⟩ := write_step (P := P) hI r hb hrw hp (All2.rep hz2 k) (o := o) (by rw [repZ_length, hzl]; exact hin) N
     refine ⟨w', ?_, rfl, q2⟩
     unfold Builtin.clear_
     simp only [h0, a0, Sem.run_bind, run_underlying hd, Result.andThen_ok]
     obtain ⟨k', rfl⟩ : ∃ m, k = m + 1 := ⟨k - 1, by omega⟩
     simp only [Sem.run_bind, hz3, Result.andThen_ok, hzc, q1, Sem.run_pure]
    ·cases hc
  ·cases hc
theorem text_sound (K : Know P Γ E) (r : Rep G I π h w) {s d : TypeId} {x x' v : Value} (ht : textV Γ s d x h = some v) (hx : VR π x x') :
  VR π v v ∧ (convert s d x').run P w = .ok v w := by
 unfold textV at ht
 split at ht
 ·rename_i e hs hd
  obtain ⟨d1, hd1, hsh1⟩ := K.under hs
  obtain ⟨d2, hd2, hsh2⟩ := K.under hd
  simp only [ShOk] at hsh1 hsh2; subst hsh1; subst hsh2
  split at ht
  ·rename_i he
   obtain ⟨d3, hd3, hsh3⟩ := K.under he
   simp only [ShOk] at hsh3; subst hsh3
   injection ht with ht; subst ht
   have := nil_at hx
   subst this
   refine ⟨vstr _, ?_⟩
   rw [run_convert_bytes_string w s d _ none 0 0 hd1 hd3 hd2]
   rfl
  ·cases ht
 ·rename_i e n o k c hs hd
  obtain ⟨d1, hd1, hsh1⟩ := K.under hs
  obtain ⟨d2, hd2, hsh2⟩ := K.under hd
  simp only [ShOk] at hsh1 hsh2; subst hsh1; subst hsh2
  split at ht
  ·rename_i he
   obtain ⟨d3, hd3, hsh3⟩ := K.under he
   simp only [ShOk] at hsh3; subst hsh3
   obtain ⟨p, a, c', hp, rfl, hk, haa, hU, hE⟩ : VR1 π (.slice (some ⟨n, o, none⟩) k c) x' := hx
   cases hc : h.cells n o k with
   | none => rw [hc] at ht; cases ht
   | some cs =>
    rw [hc] at ht
    simp only [Option.bind_some] at ht
    split at ht
    ·rename_i hall
     injection ht with ht; subst ht
     refine ⟨vstr _, ?_⟩
     obtain ⟨q1, cs', q2, q3⟩ := r.cells hc hp
     have hint : ∀ (l m : List Value), allB l = true → All2 (VR1 π) l m → m = (l.map numI).map (Value.int .u8) := by
      intro l
      induction l with
      | nil => intro m _ hm; cases m with | nil => rfl | cons _ _ => exact hm.elim
      | cons a l ih =>
       intro m hl hm
       cases m with
       | nil => exact hm.elim
       | cons b m =>
        unfold allB at hl
        split at hl
        ·rename_i hh; cases hh
        ·rename_i z r hh
         injection hh with f1 f2
         subst f1; subst f2
         have hb : b = .int .u8 z := hm.1
         subst hb
         rw [ih m hl hm.2]; rfl
        ·cases hl
     have e1 := hint cs cs' hall q2
     have hld : (loadCells a k).run P w = .ok (((cs.map numI).map (Value.int .u8))).toArray w := by
      rw [← e1, ← q1, q2.length]
      apply run_loadCells_list
      intro j v hj
      have hne : c' ≠ 0 := by
       intro h0
       have := (List.getElem?_eq_some_iff.1 hj).1
       have h3 := q2.length
       omega
      rw [haa hne, Addr.add_lit]
      exact q3 j v hj
     rw [run_convert_bytes_string w s d _ (some a) k c' hd1 hd3 hd2, run_bytesToString w a k c' _ hld]
    ·cases ht
  ·cases ht
 ·cases ht
theorem eff_sound (hI : Low G I) (K : Know P Γ E) (r : Rep G I π h w) {ρ ρ' : Operand → Value} {o : Oper} {nm : Nat} {v : Value} {h' : Hp} (he : effV Γ nm ρ o.op h = some (v, h')) (hρ : ∀ x ∈ o.op.operands, VR π (ρ x) (ρ' x))
  (hn : π nm = none) (hlt : nm < h.next) :
  ∃ v' w' π', Gives P (execOp ρ' o) w v' w' ∧ VR π' v v' ∧ Step G I (fun n => n = nm) π h w π' h' w' := by
 obtain ⟨dst, op, type, pos, after, guard⟩ := o
 simp only at he hρ
 unfold effV at he
 split at he
 ·rename_i t a x
  cases hs : stv Γ t (ρ a) (ρ x) h with
  | none => rw [hs] at he; cases he
  | some h1 =>
   rw [hs] at he
   injection he with he; injection he with g1 g2; subst g1; subst g2
   obtain ⟨w', q1, q2⟩ := store_sound (P := P) hI K r hs (hρ a (by simp [Op.operands])) (hρ x (by simp [Op.operands])) (fun n => n = nm)
   exact ⟨undef, w', π, .inr ⟨by simp [execOp, q1], rfl⟩, vundef, q2⟩
 ·rename_i args argTypes
  split at he
  ·rename_i t t2 s x h0 h1 h2 h3
   have m1 := hρ s (by simp [Op.operands, Call.operands]; exact Array.mem_of_getElem? h2)
   have m2 := hρ x (by simp [Op.operands, Call.operands]; exact Array.mem_of_getElem? h3)
   obtain ⟨v', w', π', q1, q2, q3⟩ := append_sound (P := P) (ty := type) (argTypes := argTypes) (as := args.map ρ') hI K r he m1 m2 hn hlt h0 h1 (by simp [h2]) (by simp [h3])
   exact ⟨v', w', π', .inl (by simp [execOp, resolve, invoke, builtin, q1]), q2, q3⟩
  ·cases he
 ·rename_i args argTypes
  split at he
  ·rename_i t x h0 h1
   have m1 := hρ x (by simp [Op.operands, Call.operands]; exact Array.mem_of_getElem? h1)
   split at he
   ·rename_i e _ _ _ a k c hg hx
    rw [hx] at m1
    obtain ⟨w', q1, q2, q3⟩ := clear_sound (P := P) (ty := type) (ts := argTypes) (as := args.map ρ') hI K r hg he m1 h0 (by simp [h1]) (fun n => n = nm)
    subst q2
    exact ⟨.tuple #[], w', π, .inl (by simp [execOp, resolve, invoke, builtin, q1]), vundef, q3⟩
   ·cases he
  ·cases he
 ·cases he
theorem opV_sound (hI : Low G I) (K : Know P Γ E) (r : Rep G I π h w) {ρ ρ' : Operand → Value} {o : Oper} {nm : Nat} {v : Value} {h' : Hp} (ho : opV Γ E nm ρ o.op h = some (v, h')) (hρ : ∀ x ∈ o.op.operands, VR π (ρ x) (ρ' x))
  (hn : π nm = none) (hlt : nm < h.next) :
  ∃ v' w' π', Gives P (execOp ρ' o) w v' w' ∧ VR π' v v' ∧ Step G I (fun n => n = nm) π h w π' h' w' := by
 unfold opV at ho
 split at ho
 ·rename_i v0 hp
  injection ho with ho; injection ho with g1 g2; subst g1; subst g2
  obtain ⟨v', q1, q2⟩ := pureV_sound K hp hρ
  exact ⟨v', w, π, .inl (q2 w), q1, Step.refl r⟩
 ·split at ho
  ·rename_i t a heq
   cases hl : ldv Γ t (ρ a) h with
   | none => rw [hl] at ho; cases ho
   | some v0 =>
    rw [hl] at ho
    injection ho with ho; injection ho with g1 g2; subst g1; subst g2
    obtain ⟨v', q1, q2⟩ := load_sound K r hl (hρ a (by rw [heq]; simp [Op.operands]))
    exact ⟨v', w, π, .inl (by simp [execOp, heq, q2]), q1.f.v, Step.refl r⟩
  ·split at ho
   ·rename_i v0 b hm
    injection ho with ho; injection ho with g1 g2; subst g1; subst g2
    obtain ⟨v', w', π', q1, q2, q3⟩ := make_sound hI K r hm hρ hn hlt
    exact ⟨v', w', π', .inl q1, q2, q3⟩
   ·split at ho
    ·rename_i x he
     injection ho with ho; subst ho
     exact eff_sound hI K r he hρ hn hlt
    ·split at ho
     ·rename_i s d x heq
      rw [heq] at hρ
      cases ht : textV Γ s d (ρ x) h with
      | none => rw [ht] at ho; cases ho
      | some v0 =>
       rw [ht] at ho
       injection ho with ho; injection ho with g1 g2; subst g1; subst g2
       obtain ⟨q1, q2⟩ := text_sound K r ht (hρ x (by simp [Op.operands]))
       exact ⟨v0, w, π, .inl (by simp [execOp, heq, q2]), q1, Step.refl r⟩
     ·cases ho
end
end Go.Proofs.YtonpnjfclelpiaaGreatM
