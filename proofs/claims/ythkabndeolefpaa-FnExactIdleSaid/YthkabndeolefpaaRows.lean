/-
  No cell of these rows narrows 'for every input' (looked for: loops, veiled, ifaces, maps, wideKeys, modest, calm, conditions, laid).
  DERIVED. THE GIVEN ROWS OF THIS SEAT. 6 by the template 'for every input the law returns true; each argument reads behind the call as it read before'; 0 by the template 'total and deterministic' (their statements: YthkabndeolefpaaTotals.lean).
  GIVEN WITH THE SEED: the statements are not yours to turn. If you find one false, say at which input.
  Laid BY PROGRAM, IN A SANDBOX (cutbox-rows.mjs): the forced cells as the released guide's own fill.sh prints them over the translation 8c2a2fd340349f7a… (all of the seat's roots in one cut). By AI agents, Wed Nov 11 2026. No macro, syntax, notation, axiom, sorry.
-/
import Derived.Test.YthkabndeolefpaaChecked
import GoSem.Claim
import GoSem.ClaimJoined
import GoSem.ClaimMapViews
import Derived.JoinedTies
import Derived.KernelRfl
namespace Go.Proofs.Ythkabndeolefpaa
/- THE CELL 'sum', in the pinned program and in every row, IS THE sha256 OF THE DUMP (.gsa) THAT YthkabndeolefpaaProg.lean LOADS. Nothing in Lean hashes anything: it is a label: what it is worth is what the hold of that sum in a sandbox is worth. -/
noncomputable def Try.pinned : Pinned := { name := "ythkabndeolefpaa", sum := "8c2a2fd340349f7a7944296fa81c1455afa2dcc348764585f61156e0da0b58f6", checked := Try.checked }
namespace Rows
def none {H : Type} : Left H := { results := [], args := [] }

/-- 'laws.FnExactRunName': WHATEVER THE INPUT: true; the input reads as it did. -/
def fnExactRunNameSpec : ChangeSpec := { name := "fnExactRunName", fn := fun _ => fun
  | [d] => { results := [.lit (.bool true)], args := [d] }
  | _ => none }
def fnExactRunNameRow : OpenClaim := { program := "ythkabndeolefpaa", sum := "8c2a2fd340349f7a7944296fa81c1455afa2dcc348764585f61156e0da0b58f6", func := "loop.example/g00192/laws.FnExactRunName", spec := "fnExactRunName", apart := false }
def FnExactRunNameSaid : Prop := fnExactRunNameRow.holds Try.pinned (OpenSpec.ofChange fnExactRunNameSpec)

/-- ITS FALSE NEIGHBOUR: 'it returns false'. Refute it at one input. -/
def fnExactRunNameWrong : ChangeSpec := { name := "fnExactRunName", fn := fun _ => fun
  | [d] => { results := [.lit (.bool false)], args := [d] }
  | _ => none }
def FnExactRunNameWrongFalsely : Prop := fnExactRunNameRow.holds Try.pinned (OpenSpec.ofChange fnExactRunNameWrong)

/-- 'laws.FnExactCheckName': WHATEVER THE INPUT: true; the input reads as it did. -/
def fnExactCheckNameSpec : ChangeSpec := { name := "fnExactCheckName", fn := fun _ => fun
  | [d] => { results := [.lit (.bool true)], args := [d] }
  | _ => none }
def fnExactCheckNameRow : OpenClaim := { program := "ythkabndeolefpaa", sum := "8c2a2fd340349f7a7944296fa81c1455afa2dcc348764585f61156e0da0b58f6", func := "loop.example/g00192/laws.FnExactCheckName", spec := "fnExactCheckName", apart := false }
def FnExactCheckNameSaid : Prop := fnExactCheckNameRow.holds Try.pinned (OpenSpec.ofChange fnExactCheckNameSpec)

/-- ITS FALSE NEIGHBOUR: 'it returns false'. Refute it at one input. -/
def fnExactCheckNameWrong : ChangeSpec := { name := "fnExactCheckName", fn := fun _ => fun
  | [d] => { results := [.lit (.bool false)], args := [d] }
  | _ => none }
def FnExactCheckNameWrongFalsely : Prop := fnExactCheckNameRow.holds Try.pinned (OpenSpec.ofChange fnExactCheckNameWrong)

/-- 'laws.FnExactIdle': WHATEVER THE INPUT: true; the input reads as it did. -/
def fnExactIdleSpec : ChangeSpec := { name := "fnExactIdle", fn := fun _ => fun
  | [d1, d2] => { results := [.lit (.bool true)], args := [d1, d2] }
  | _ => none }
def fnExactIdleRow : OpenClaim := { program := "ythkabndeolefpaa", sum := "8c2a2fd340349f7a7944296fa81c1455afa2dcc348764585f61156e0da0b58f6", func := "loop.example/g00192/laws.FnExactIdle", spec := "fnExactIdle", apart := false }
def FnExactIdleSaid : Prop := fnExactIdleRow.holds Try.pinned (OpenSpec.ofChange fnExactIdleSpec)

/-- ITS FALSE NEIGHBOUR: 'it returns false'. Refute it at one input. -/
def fnExactIdleWrong : ChangeSpec := { name := "fnExactIdle", fn := fun _ => fun
  | [d1, d2] => { results := [.lit (.bool false)], args := [d1, d2] }
  | _ => none }
def FnExactIdleWrongFalsely : Prop := fnExactIdleRow.holds Try.pinned (OpenSpec.ofChange fnExactIdleWrong)

/-- 'laws.FnExactSlotsOf': WHATEVER THE INPUT: true; the input reads as it did. -/
def fnExactSlotsOfSpec : ChangeSpec := { name := "fnExactSlotsOf", fn := fun _ => fun
  | [d] => { results := [.lit (.bool true)], args := [d] }
  | _ => none }
def fnExactSlotsOfRow : OpenClaim := { program := "ythkabndeolefpaa", sum := "8c2a2fd340349f7a7944296fa81c1455afa2dcc348764585f61156e0da0b58f6", func := "loop.example/g00192/laws.FnExactSlotsOf", spec := "fnExactSlotsOf", apart := false }
def FnExactSlotsOfSaid : Prop := fnExactSlotsOfRow.holds Try.pinned (OpenSpec.ofChange fnExactSlotsOfSpec)

/-- ITS FALSE NEIGHBOUR: 'it returns false'. Refute it at one input. -/
def fnExactSlotsOfWrong : ChangeSpec := { name := "fnExactSlotsOf", fn := fun _ => fun
  | [d] => { results := [.lit (.bool false)], args := [d] }
  | _ => none }
def FnExactSlotsOfWrongFalsely : Prop := fnExactSlotsOfRow.holds Try.pinned (OpenSpec.ofChange fnExactSlotsOfWrong)

/-- 'laws.FnExactUnpackNum': WHATEVER THE INPUT: true; the input reads as it did. -/
def fnExactUnpackNumSpec : ChangeSpec := { name := "fnExactUnpackNum", fn := fun _ => fun
  | [d1, d2] => { results := [.lit (.bool true)], args := [d1, d2] }
  | _ => none }
def fnExactUnpackNumRow : OpenClaim := { program := "ythkabndeolefpaa", sum := "8c2a2fd340349f7a7944296fa81c1455afa2dcc348764585f61156e0da0b58f6", func := "loop.example/g00192/laws.FnExactUnpackNum", spec := "fnExactUnpackNum", apart := false }
def FnExactUnpackNumSaid : Prop := fnExactUnpackNumRow.holds Try.pinned (OpenSpec.ofChange fnExactUnpackNumSpec)

/-- ITS FALSE NEIGHBOUR: 'it returns false'. Refute it at one input. -/
def fnExactUnpackNumWrong : ChangeSpec := { name := "fnExactUnpackNum", fn := fun _ => fun
  | [d1, d2] => { results := [.lit (.bool false)], args := [d1, d2] }
  | _ => none }
def FnExactUnpackNumWrongFalsely : Prop := fnExactUnpackNumRow.holds Try.pinned (OpenSpec.ofChange fnExactUnpackNumWrong)

/-- 'laws.FnExactPackNum': WHATEVER THE INPUT: true; the input reads as it did. -/
def fnExactPackNumSpec : ChangeSpec := { name := "fnExactPackNum", fn := fun _ => fun
  | [d] => { results := [.lit (.bool true)], args := [d] }
  | _ => none }
def fnExactPackNumRow : OpenClaim := { program := "ythkabndeolefpaa", sum := "8c2a2fd340349f7a7944296fa81c1455afa2dcc348764585f61156e0da0b58f6", func := "loop.example/g00192/laws.FnExactPackNum", spec := "fnExactPackNum", apart := false }
def FnExactPackNumSaid : Prop := fnExactPackNumRow.holds Try.pinned (OpenSpec.ofChange fnExactPackNumSpec)

/-- ITS FALSE NEIGHBOUR: 'it returns false'. Refute it at one input. -/
def fnExactPackNumWrong : ChangeSpec := { name := "fnExactPackNum", fn := fun _ => fun
  | [d] => { results := [.lit (.bool false)], args := [d] }
  | _ => none }
def FnExactPackNumWrongFalsely : Prop := fnExactPackNumRow.holds Try.pinned (OpenSpec.ofChange fnExactPackNumWrong)

/- THE SECOND FORM. 'bulk': how many values and letters a reading holds, each counted each time it is reached (what is shared counts as often as it is met; a slice's spare places count too). A statement '..UptoSaid' is the law's where the arguments, and the package variables that the reading takes, are together of bulk at most 1048576: NARROWER than '..Said'. Prove '..Said' where nothing that the law and all that it calls make is longer than what came in: it says more and counts as full. Else prove '..UptoSaid'. A law counts once. -/
mutual
def uptoBulk {H : Type} : DataW H → Nat
  | .lit (.string bytes) => bytes.length + 1
  | .lit _ => 1
  | .nil => 1
  | .ptr d => uptoBulk d + 1
  | .slice elems spare => uptoBulkAll elems + uptoBulkAll spare + 1
  | .agg parts => uptoBulkAll parts + 1
  | .iface _ d => uptoBulk d + 1
  | .map entries => uptoBulkEntries entries + 1
  | .held _ => 1
def uptoBulkAll {H : Type} : List (DataW H) → Nat
  | [] => 0
  | d :: r => uptoBulk d + uptoBulkAll r
def uptoBulkEntries {H : Type} : List (Lit × DataW H) → Nat
  | [] => 0
  | x :: r => uptoBulkEntry x + uptoBulkEntries r
def uptoBulkEntry {H : Type} : Lit × DataW H → Nat
  | (.string bytes, d) => bytes.length + uptoBulk d + 1
  | (_, d) => uptoBulk d + 1
 end
def uptoSmall : (H : Type) → List (DataW H) → Bool := fun _ ds => decide (uptoBulkAll ds ≤ 1048576)
def OpenSpec.upto (s : _root_.Go.ChangeSpec) : _root_.Go.OpenSpec := { _root_.Go.OpenSpec.ofChange s with cond := some uptoSmall }

/-- 'laws.FnExactRunName', WHERE WHAT IT READS IS OF BULK AT MOST 1048576: true; the input reads as it did. -/
def fnExactRunNameUptoRow : OpenClaim := { program := "ythkabndeolefpaa", sum := "8c2a2fd340349f7a7944296fa81c1455afa2dcc348764585f61156e0da0b58f6", func := "loop.example/g00192/laws.FnExactRunName", spec := "fnExactRunName", apart := false, narrowed := true }
def FnExactRunNameUptoSaid : Prop := fnExactRunNameUptoRow.holds Try.pinned (OpenSpec.upto fnExactRunNameSpec)

/-- 'laws.FnExactCheckName', WHERE WHAT IT READS IS OF BULK AT MOST 1048576: true; the input reads as it did. -/
def fnExactCheckNameUptoRow : OpenClaim := { program := "ythkabndeolefpaa", sum := "8c2a2fd340349f7a7944296fa81c1455afa2dcc348764585f61156e0da0b58f6", func := "loop.example/g00192/laws.FnExactCheckName", spec := "fnExactCheckName", apart := false, narrowed := true }
def FnExactCheckNameUptoSaid : Prop := fnExactCheckNameUptoRow.holds Try.pinned (OpenSpec.upto fnExactCheckNameSpec)

/-- 'laws.FnExactIdle', WHERE WHAT IT READS IS OF BULK AT MOST 1048576: true; the input reads as it did. -/
def fnExactIdleUptoRow : OpenClaim := { program := "ythkabndeolefpaa", sum := "8c2a2fd340349f7a7944296fa81c1455afa2dcc348764585f61156e0da0b58f6", func := "loop.example/g00192/laws.FnExactIdle", spec := "fnExactIdle", apart := false, narrowed := true }
def FnExactIdleUptoSaid : Prop := fnExactIdleUptoRow.holds Try.pinned (OpenSpec.upto fnExactIdleSpec)

/-- 'laws.FnExactSlotsOf', WHERE WHAT IT READS IS OF BULK AT MOST 1048576: true; the input reads as it did. -/
def fnExactSlotsOfUptoRow : OpenClaim := { program := "ythkabndeolefpaa", sum := "8c2a2fd340349f7a7944296fa81c1455afa2dcc348764585f61156e0da0b58f6", func := "loop.example/g00192/laws.FnExactSlotsOf", spec := "fnExactSlotsOf", apart := false, narrowed := true }
def FnExactSlotsOfUptoSaid : Prop := fnExactSlotsOfUptoRow.holds Try.pinned (OpenSpec.upto fnExactSlotsOfSpec)

/-- 'laws.FnExactUnpackNum', WHERE WHAT IT READS IS OF BULK AT MOST 1048576: true; the input reads as it did. -/
def fnExactUnpackNumUptoRow : OpenClaim := { program := "ythkabndeolefpaa", sum := "8c2a2fd340349f7a7944296fa81c1455afa2dcc348764585f61156e0da0b58f6", func := "loop.example/g00192/laws.FnExactUnpackNum", spec := "fnExactUnpackNum", apart := false, narrowed := true }
def FnExactUnpackNumUptoSaid : Prop := fnExactUnpackNumUptoRow.holds Try.pinned (OpenSpec.upto fnExactUnpackNumSpec)

/-- 'laws.FnExactPackNum', WHERE WHAT IT READS IS OF BULK AT MOST 1048576: true; the input reads as it did. -/
def fnExactPackNumUptoRow : OpenClaim := { program := "ythkabndeolefpaa", sum := "8c2a2fd340349f7a7944296fa81c1455afa2dcc348764585f61156e0da0b58f6", func := "loop.example/g00192/laws.FnExactPackNum", spec := "fnExactPackNum", apart := false, narrowed := true }
def FnExactPackNumUptoSaid : Prop := fnExactPackNumUptoRow.holds Try.pinned (OpenSpec.upto fnExactPackNumSpec)

end Rows
end Go.Proofs.Ythkabndeolefpaa
