import Derived.Test.YtjkcliabfboecaaRows
import Derived.Test.YtjkcliabfboecaaV6S2
import Derived.Test.YtjkcliabfboecaaV6Mvm
import Derived.WalkKit
import Derived.ProofKit
import Derived.OpenShut
import Derived.ShutString
import Derived.ChangeOld
import Derived.Below
import Derived.SizedLaws
/- The law FnExactLiveAt of the program holds for every input: it returns true and its arguments read as before. No condition. -/
namespace Go.Proofs.Ytjkcliabfboecaa.fnExactLiveAt
open Go.ChangeShapes Go.WideShapes Go.ChangeAt Go.RowKit
open Go.Proofs.YtjkcliabfboecaaM
set_option linter.unusedVariables false
theorem own : ownKnob Try.prog.godebug = none := by kernel_rfl
theorem laidOut : laidOutB Try.prog = true := by kernel_rfl
abbrev st5z : Value := .agg #[.int .i64 0, .int .i64 0, .int .i64 0, .int .i64 0, .int .i64 0]
set_option maxRecDepth 100000 in
theorem lifted (os : Os) (started : os.Started) (H : Type) (enc : TypeId × Value → H) :
    ReturnsInHanded {} Try.checked os 4 .any (Rows.fnExactLiveAtSpec.pre6 enc Try.prog Try.f4 Rows.fnExactLiveAtRow.domain false) (Rows.fnExactLiveAtSpec.post enc Try.prog Try.f4 false true false false) := by
  refine returnsInHanded_of_change_sized (C := Try.checked) own started (by kernel_rfl) Try.func4
    (ChangeSpec.witness6 (enc := enc) (C := Try.checked) false ⟨#[], #[.agg #[.slice none 0 0, .int .i64 0], .int .i64 0, .int .i64 0], []⟩ 8 (by kernel_rfl) (by kernel_rfl) (by kernel_rfl) (by kernel_rfl)) ?_
  intro W base args ds gs before hval0 hW hcnd hsz0 _
  have hval : ∀ (j : Nat) t v, Try.f4.params[j]? = some t → args[j]? = some v → Value.okWide Try.prog W .any base t v := hval0
  have hW' := hW
  obtain ⟨p, q, hA0, hV, rfl, hfz, hnd⟩ := hW
  have hA : DataW.TrodAll enc Try.prog W 0 (fun _ => true) true Try.f4.params.toList args.toList ds p := hA0
  rw [Try.params4] at hA hval
  obtain ⟨v0, vs0, d0, ds0, p0, q0, hargs, rfl, rfl, h0, r0⟩ := trodAll_cons hA
  obtain ⟨v1, vs1, d1, ds1, p1, q1, rfl, rfl, rfl, h1, r1⟩ := trodAll_cons r0
  obtain ⟨v2, vs2, d2, ds2, p2, q2, rfl, rfl, rfl, h2, r2⟩ := trodAll_cons r1
  obtain ⟨rfl, rfl, rfl⟩ := trodAll_nil r2
  obtain rfl : args = #[v0, v1, v2] := by cases args; simp_all
  obtain ⟨rfl, rfl⟩ := trodVars_none hV
  have lt0 : ∀ x ∈ p0, x.block < W.heap.size := by obtain ⟨m, hm⟩ := h0; exact DataW.trod_lt m _ _ _ hm
  have lt1 : ∀ x ∈ p1, x.block < W.heap.size := by obtain ⟨m, hm⟩ := h1; exact DataW.trod_lt m _ _ _ hm
  have lt2 : ∀ x ∈ p2, x.block < W.heap.size := by obtain ⟨m, hm⟩ := h2; exact DataW.trod_lt m _ _ _ hm
  obtain ⟨M, hM0, hM⟩ := big_ex W
  obtain ⟨x0, y0, g0, z0⟩ := arg_v know hM 8 h0 (hval 0 _ v0 rfl rfl) rfl (by rfl)
  obtain ⟨a0, rfl, w0⟩ := ty_fn y0 rfl rfl rfl rfl rfl rfl rfl rfl rfl rfl rfl
  obtain ⟨x1, y1, g1, z1⟩ := arg_v know hM 8 h1 (hval 1 _ v1 rfl rfl) rfl (by rfl)
  obtain ⟨a1, rfl, w1⟩ := ty_int y1 rfl
  obtain ⟨x2, y2, g2, z2⟩ := arg_v know hM 8 h2 (hval 2 _ v2 rfl rfl) rfl (by rfl)
  obtain ⟨a2, rfl, w2⟩ := ty_int y2 rfl
  refine (law_v (args := #[v0, v1, v2]) (xs := [fnF a0, .int .i64 a1, .int .i64 a2]) (W := W) (vs := [trv W.heap.size M v0, trv W.heap.size M v1, trv W.heap.size M v2]) know fok (fun _ _ _ _ _ h => h.elim) hM0 (v_FnExactLiveAt a0 a1 a2 w0 w1 w2) ⟨g0, g1, g2, trivial⟩ ⟨z0, z1, z2, trivial⟩).mono fun e W' ⟨he, bel⟩ => ?_
  subst he
  exact ⟨_, rfl, _, _, _, [], _, [], hW', trodAll_mk1 (shut_bool Try.underlying4 _), (trodAll_cons_mk (Below.trod laidOut (by kernel_rfl) (of_decide_eq_true (by kernel_rfl)) h0 bel lt0) (trodAll_cons_mk (Below.trod laidOut (by kernel_rfl) (of_decide_eq_true (by kernel_rfl)) h1 bel lt1) (trodAll_cons_mk (Below.trod laidOut (by kernel_rfl) (of_decide_eq_true (by kernel_rfl)) h2 bel lt2) trodAll_mk0))), rfl, bel.frame _, fun h => by cases h⟩
theorem over : Rows.fnExactLiveAtRow.holds Try.pinned (OpenSpec.ofChange Rows.fnExactLiveAtSpec) :=
  OpenClaim.holds_of_wide 4 Try.f4 rfl rfl rfl rfl rfl rfl rfl ⟨rfl, rfl, rfl, rfl, rfl⟩ rfl rfl rfl rfl rfl (by kernel_rfl) Try.func4 (by kernel_rfl)
    (of_decide_eq_true (by kernel_rfl)) (by unfold Func.isWrapper; first | (rw [if_pos (by decide +kernel)]; kernel_rfl) | (rw [if_neg (by decide +kernel)]; exact ⟨rfl, rfl⟩))
    (fun os started H enc _ => lifted os started H enc)
theorem proved : Rows.FnExactLiveAtSaid := over
end Go.Proofs.Ytjkcliabfboecaa.fnExactLiveAt
namespace Go.Proofs.Ytjkcliabfboecaa
/-- The row, under a short name, for the claim. -/
theorem fnExactLiveAt_holds : Rows.FnExactLiveAtSaid := fnExactLiveAt.proved
end Go.Proofs.Ytjkcliabfboecaa
