import Derived.Test.YtonpnjfclelpiaaGreatRows
import Derived.Test.YtonpnjfclelpiaaGreatVDS3
import Derived.Test.YtonpnjfclelpiaaGreatVDMvm
import Derived.WalkKit
import Derived.ProofKit
import Derived.OpenShut
import Derived.ShutString
import Derived.ChangeOld
import Derived.Below
import Derived.SizedLaws
/- The law FnExactRenamed of the program holds for every input: it returns true and its arguments read as before. No condition. -/
namespace Go.Proofs.YtonpnjfclelpiaaGreat.fnExactRenamed
open Go.ChangeShapes Go.WideShapes Go.ChangeAt Go.RowKit
open Go.Proofs.YtonpnjfclelpiaaGreatM
set_option linter.unusedVariables false
theorem own : ownKnob Tryz.prog.godebug = none := by kernel_rfl
theorem laidOut : laidOutB Tryz.prog = true := by kernel_rfl
abbrev st5z : Value := .agg #[.int .i64 0, .int .i64 0, .int .i64 0, .int .i64 0, .int .i64 0]
set_option maxRecDepth 100000 in
theorem lifted (os : Os) (started : os.Started) (H : Type) (enc : TypeId × Value → H) :
  ReturnsInHanded {} Tryz.checked os 3 .any (Rows.fnExactRenamedSpec.pre6 enc Tryz.prog Tryz.f3 Rows.fnExactRenamedRow.domain false) (Rows.fnExactRenamedSpec.post enc Tryz.prog Tryz.f3 false true false false) := by
 refine returnsInHanded_of_change_sized (C := Tryz.checked) own started (by kernel_rfl) Tryz.func3
  (ChangeSpec.witness6 (enc := enc) (C := Tryz.checked) false ⟨#[], #[.agg #[.slice none 0 0, .int .i64 0], .slice none 0 0], []⟩ 8 (by kernel_rfl) (by kernel_rfl) (by kernel_rfl) (by kernel_rfl)) ?_
 intro W base args ds gs before hval0 hW hcnd hsz0 _
 have hval : ∀ (j : Nat) t v, Tryz.f3.params[j]? = some t → args[j]? = some v → Value.okWide Tryz.prog W .any base t v := hval0
 have hW' := hW
 obtain ⟨p, q, hA0, hV, rfl, hfz, hnd⟩ := hW
 have hA : DataW.TrodAll enc Tryz.prog W 0 (fun _ => true) true Tryz.f3.params.toList args.toList ds p := hA0
 rw [Tryz.params3] at hA hval
 obtain ⟨v0, vs0, d0, ds0, p0, q0, hargs, rfl, rfl, h0, r0⟩ := trodAll_cons hA
 obtain ⟨v1, vs1, d1, ds1, p1, q1, rfl, rfl, rfl, h1, r1⟩ := trodAll_cons r0
 obtain ⟨rfl, rfl, rfl⟩ := trodAll_nil r1
 obtain rfl : args = #[v0, v1] := by cases args; simp_all
 obtain ⟨rfl, rfl⟩ := trodVars_none hV
 have lt0 : ∀ x ∈ p0, x.block < W.heap.size := by obtain ⟨m, hm⟩ := h0; exact DataW.trod_lt m _ _ _ hm
 have lt1 : ∀ x ∈ p1, x.block < W.heap.size := by obtain ⟨m, hm⟩ := h1; exact DataW.trod_lt m _ _ _ hm
 obtain ⟨M, hM0, hM⟩ := big_ex W
 obtain ⟨x0, y0, g0, z0⟩ := arg_v know hM 8 h0 (hval 0 _ v0 rfl rfl) rfl (by rfl)
 obtain ⟨a0, rfl, w0⟩ := ty_fn y0 rfl rfl rfl rfl rfl rfl rfl rfl rfl rfl rfl
 obtain ⟨x1, y1, g1, z1⟩ := arg_v know hM 8 h1 (hval 1 _ v1 rfl rfl) rfl (by rfl)
 obtain ⟨a1, rfl, w1⟩ := ty_ints y1 rfl rfl rfl
 refine (law_v (args := #[v0, v1]) (xs := [fnF a0, intR a1]) (W := W) (vs := [trv W.heap.size M v0, trv W.heap.size M v1]) know fok (fun _ _ _ _ _ h => h.elim) hM0 (v_FnExactRenamed a0 a1 w0 w1) ⟨g0, g1, trivial⟩ ⟨z0, z1, trivial⟩).mono fun e W' ⟨he, bel⟩ => ?_
 subst he
 exact ⟨_, rfl, _, _, _, [], _, [], hW', trodAll_mk1 (shut_bool Tryz.underlying4 _), (trodAll_cons_mk (Below.trod laidOut (by kernel_rfl) (of_decide_eq_true (by kernel_rfl)) h0 bel lt0) (trodAll_cons_mk (Below.trod laidOut (by kernel_rfl) (of_decide_eq_true (by kernel_rfl)) h1 bel lt1) trodAll_mk0)), rfl, bel.frame _, fun h => by cases h⟩
theorem over : Rows.fnExactRenamedRow.holds Tryz.pinned (OpenSpec.ofChange Rows.fnExactRenamedSpec) :=
 OpenClaim.holds_of_wide 3 Tryz.f3 rfl rfl rfl rfl rfl rfl rfl ⟨rfl, rfl, rfl, rfl, rfl⟩ rfl rfl rfl rfl rfl (by kernel_rfl) Tryz.func3 (by kernel_rfl)
  (of_decide_eq_true (by kernel_rfl)) (by unfold Func.isWrapper; first | (rw [if_pos (by decide +kernel)]; kernel_rfl) | (rw [if_neg (by decide +kernel)]; exact ⟨rfl, rfl⟩))
  (fun os started H enc _ => lifted os started H enc)
theorem proved : Rows.FnExactRenamedSaid := over
end Go.Proofs.YtonpnjfclelpiaaGreat.fnExactRenamed
namespace Go.Proofs.YtonpnjfclelpiaaGreat
/-- The row, under a short name, for the claim. -/
theorem fnExactRenamed_holds : Rows.FnExactRenamedSaid := fnExactRenamed.proved
end Go.Proofs.YtonpnjfclelpiaaGreat
