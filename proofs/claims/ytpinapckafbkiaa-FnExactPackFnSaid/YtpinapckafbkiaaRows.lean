/-
  No cell of these rows narrows 'for every input' (looked for: loops, veiled, ifaces, maps, wideKeys, modest, calm, conditions, laid).
  DERIVED. THE GIVEN ROWS OF THIS SEAT. 4 by the template 'for every input the law returns true; each argument reads behind the call as it read before'; 0 by the template 'total and deterministic' (their statements: YtpinapckafbkiaaTotals.lean).
  GIVEN WITH THE SEED: the statements are not yours to turn. If you find one false, say at which input.
  Laid BY PROGRAM, IN A SANDBOX (cutbox-rows.mjs): the forced cells as the released guide's own fill.sh prints them over the translation 81996ea77aa7853c… (all of the seat's roots in one cut). By AI agents, Wed Nov 11 2026. No macro, syntax, notation, axiom, sorry.
-/
import Derived.Test.YtpinapckafbkiaaChecked
import GoSem.Claim
import GoSem.ClaimJoined
import GoSem.ClaimMapViews
import Derived.JoinedTies
import Derived.KernelRfl
namespace Go.Proofs.Ytpinapckafbkiaa
/- THE CELL 'sum', in the pinned program and in every row, IS THE sha256 OF THE DUMP (.gsa) THAT YtpinapckafbkiaaProg.lean LOADS. Nothing in Lean hashes anything: it is a label: what it is worth is what the hold of that sum in a sandbox is worth. -/
noncomputable def Try.pinned : Pinned := { name := "ytpinapckafbkiaa", sum := "81996ea77aa7853cb97c5e6b00b043c4ee6e950170a3b7ebab2e09785070c5cc", checked := Try.checked }
namespace Rows
def none {H : Type} : Left H := { results := [], args := [] }

/-- 'laws.FnExactPackFn': WHATEVER THE INPUT: true; the input reads as it did. -/
def fnExactPackFnSpec : ChangeSpec := { name := "fnExactPackFn", fn := fun _ => fun
  | [d] => { results := [.lit (.bool true)], args := [d] }
  | _ => none }
def fnExactPackFnRow : OpenClaim := { program := "ytpinapckafbkiaa", sum := "81996ea77aa7853cb97c5e6b00b043c4ee6e950170a3b7ebab2e09785070c5cc", func := "loop.example/g00192/laws.FnExactPackFn", spec := "fnExactPackFn", unfollowed := true, recurses := true, apart := false }
def FnExactPackFnSaid : Prop := fnExactPackFnRow.holds Try.pinned (OpenSpec.ofChange fnExactPackFnSpec)

/-- ITS FALSE NEIGHBOUR: 'it returns false'. Refute it at one input. -/
def fnExactPackFnWrong : ChangeSpec := { name := "fnExactPackFn", fn := fun _ => fun
  | [d] => { results := [.lit (.bool false)], args := [d] }
  | _ => none }
def FnExactPackFnWrongFalsely : Prop := fnExactPackFnRow.holds Try.pinned (OpenSpec.ofChange fnExactPackFnWrong)

/-- 'laws.FnExactUnpackFn': WHATEVER THE INPUT: true; the input reads as it did. -/
def fnExactUnpackFnSpec : ChangeSpec := { name := "fnExactUnpackFn", fn := fun _ => fun
  | [d] => { results := [.lit (.bool true)], args := [d] }
  | _ => none }
def fnExactUnpackFnRow : OpenClaim := { program := "ytpinapckafbkiaa", sum := "81996ea77aa7853cb97c5e6b00b043c4ee6e950170a3b7ebab2e09785070c5cc", func := "loop.example/g00192/laws.FnExactUnpackFn", spec := "fnExactUnpackFn", unfollowed := true, recurses := true, apart := false }
def FnExactUnpackFnSaid : Prop := fnExactUnpackFnRow.holds Try.pinned (OpenSpec.ofChange fnExactUnpackFnSpec)

/-- ITS FALSE NEIGHBOUR: 'it returns false'. Refute it at one input. -/
def fnExactUnpackFnWrong : ChangeSpec := { name := "fnExactUnpackFn", fn := fun _ => fun
  | [d] => { results := [.lit (.bool false)], args := [d] }
  | _ => none }
def FnExactUnpackFnWrongFalsely : Prop := fnExactUnpackFnRow.holds Try.pinned (OpenSpec.ofChange fnExactUnpackFnWrong)

/-- 'laws.FnFnBytes': WHATEVER THE INPUT: true; the input reads as it did. -/
def fnFnBytesSpec : ChangeSpec := { name := "fnFnBytes", fn := fun _ => fun
  | [d] => { results := [.lit (.bool true)], args := [d] }
  | _ => none }
def fnFnBytesRow : OpenClaim := { program := "ytpinapckafbkiaa", sum := "81996ea77aa7853cb97c5e6b00b043c4ee6e950170a3b7ebab2e09785070c5cc", func := "loop.example/g00192/laws.FnFnBytes", spec := "fnFnBytes", unfollowed := true, recurses := true, apart := false }
def FnFnBytesSaid : Prop := fnFnBytesRow.holds Try.pinned (OpenSpec.ofChange fnFnBytesSpec)

/-- ITS FALSE NEIGHBOUR: 'it returns false'. Refute it at one input. -/
def fnFnBytesWrong : ChangeSpec := { name := "fnFnBytes", fn := fun _ => fun
  | [d] => { results := [.lit (.bool false)], args := [d] }
  | _ => none }
def FnFnBytesWrongFalsely : Prop := fnFnBytesRow.holds Try.pinned (OpenSpec.ofChange fnFnBytesWrong)

/-- 'laws.FnExactUses': WHATEVER THE INPUT: true; the input reads as it did. -/
def fnExactUsesSpec : ChangeSpec := { name := "fnExactUses", fn := fun _ => fun
  | [d] => { results := [.lit (.bool true)], args := [d] }
  | _ => none }
def fnExactUsesRow : OpenClaim := { program := "ytpinapckafbkiaa", sum := "81996ea77aa7853cb97c5e6b00b043c4ee6e950170a3b7ebab2e09785070c5cc", func := "loop.example/g00192/laws.FnExactUses", spec := "fnExactUses", unfollowed := true, recurses := true, apart := false }
def FnExactUsesSaid : Prop := fnExactUsesRow.holds Try.pinned (OpenSpec.ofChange fnExactUsesSpec)

/-- ITS FALSE NEIGHBOUR: 'it returns false'. Refute it at one input. -/
def fnExactUsesWrong : ChangeSpec := { name := "fnExactUses", fn := fun _ => fun
  | [d] => { results := [.lit (.bool false)], args := [d] }
  | _ => none }
def FnExactUsesWrongFalsely : Prop := fnExactUsesRow.holds Try.pinned (OpenSpec.ofChange fnExactUsesWrong)

/- THE SECOND FORM. 'bulk': how many values and letters a reading holds, each counted each time it is reached (what is shared counts as often as it is met; a slice's spare places count too). A statement '..UptoSaid' is the law's where the arguments, and the package variables that the reading takes, are together of bulk at most 1048576: NARROWER than '..Said'. Prove '..Said' where nothing that the law and all that it calls make is longer than what came in: it says more and counts as full. Else prove '..UptoSaid'. A law counts once. -/
mutual
def uptoBulk {H : Type} : DataW H → Nat
  | .lit (.string bytes) => bytes.length + 1
  | .lit _ => 1
  | .nil => 1
  | .ptr d => uptoBulk d + 1
  | .slice elems spare => uptoBulkAll elems + uptoBulkAll spare + 1
  | .agg parts => uptoBulkAll parts + 1
  | .iface _ d => uptoBulk d + 1
  | .map entries => uptoBulkEntries entries + 1
  | .held _ => 1
def uptoBulkAll {H : Type} : List (DataW H) → Nat
  | [] => 0
  | d :: r => uptoBulk d + uptoBulkAll r
def uptoBulkEntries {H : Type} : List (Lit × DataW H) → Nat
  | [] => 0
  | x :: r => uptoBulkEntry x + uptoBulkEntries r
def uptoBulkEntry {H : Type} : Lit × DataW H → Nat
  | (.string bytes, d) => bytes.length + uptoBulk d + 1
  | (_, d) => uptoBulk d + 1
 end
def uptoSmall : (H : Type) → List (DataW H) → Bool := fun _ ds => decide (uptoBulkAll ds ≤ 1048576)
def OpenSpec.upto (s : _root_.Go.ChangeSpec) : _root_.Go.OpenSpec := { _root_.Go.OpenSpec.ofChange s with cond := some uptoSmall }

/-- 'laws.FnExactPackFn', WHERE WHAT IT READS IS OF BULK AT MOST 1048576: true; the input reads as it did. -/
def fnExactPackFnUptoRow : OpenClaim := { program := "ytpinapckafbkiaa", sum := "81996ea77aa7853cb97c5e6b00b043c4ee6e950170a3b7ebab2e09785070c5cc", func := "loop.example/g00192/laws.FnExactPackFn", spec := "fnExactPackFn", unfollowed := true, recurses := true, apart := false, narrowed := true }
def FnExactPackFnUptoSaid : Prop := fnExactPackFnUptoRow.holds Try.pinned (OpenSpec.upto fnExactPackFnSpec)

/-- 'laws.FnExactUnpackFn', WHERE WHAT IT READS IS OF BULK AT MOST 1048576: true; the input reads as it did. -/
def fnExactUnpackFnUptoRow : OpenClaim := { program := "ytpinapckafbkiaa", sum := "81996ea77aa7853cb97c5e6b00b043c4ee6e950170a3b7ebab2e09785070c5cc", func := "loop.example/g00192/laws.FnExactUnpackFn", spec := "fnExactUnpackFn", unfollowed := true, recurses := true, apart := false, narrowed := true }
def FnExactUnpackFnUptoSaid : Prop := fnExactUnpackFnUptoRow.holds Try.pinned (OpenSpec.upto fnExactUnpackFnSpec)

/-- 'laws.FnFnBytes', WHERE WHAT IT READS IS OF BULK AT MOST 1048576: true; the input reads as it did. -/
def fnFnBytesUptoRow : OpenClaim := { program := "ytpinapckafbkiaa", sum := "81996ea77aa7853cb97c5e6b00b043c4ee6e950170a3b7ebab2e09785070c5cc", func := "loop.example/g00192/laws.FnFnBytes", spec := "fnFnBytes", unfollowed := true, recurses := true, apart := false, narrowed := true }
def FnFnBytesUptoSaid : Prop := fnFnBytesUptoRow.holds Try.pinned (OpenSpec.upto fnFnBytesSpec)

/-- 'laws.FnExactUses', WHERE WHAT IT READS IS OF BULK AT MOST 1048576: true; the input reads as it did. -/
def fnExactUsesUptoRow : OpenClaim := { program := "ytpinapckafbkiaa", sum := "81996ea77aa7853cb97c5e6b00b043c4ee6e950170a3b7ebab2e09785070c5cc", func := "loop.example/g00192/laws.FnExactUses", spec := "fnExactUses", unfollowed := true, recurses := true, apart := false, narrowed := true }
def FnExactUsesUptoSaid : Prop := fnExactUsesUptoRow.holds Try.pinned (OpenSpec.upto fnExactUsesSpec)

end Rows
end Go.Proofs.Ytpinapckafbkiaa
