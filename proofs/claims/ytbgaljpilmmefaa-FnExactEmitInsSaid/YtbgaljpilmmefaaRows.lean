/-
  No cell of these rows narrows 'for every input' (looked for: loops, veiled, ifaces, maps, wideKeys, modest, calm, conditions, laid).
  DERIVED. THE GIVEN ROWS OF THIS SEAT. 11 by the template 'for every input the law returns true; each argument reads behind the call as it read before'; 0 by the template 'total and deterministic' (their statements: YtbgaljpilmmefaaTotals.lean).
  GIVEN WITH THE SEED: the statements are not yours to turn. If you find one false, say at which input.
  Laid BY PROGRAM, IN A SANDBOX (cutbox-rows.mjs): the forced cells as the released guide's own fill.sh prints them over the translation 585341068c07288b… (all of the seat's roots in one cut). By AI agents, Wed Nov 11 2026. No macro, syntax, notation, axiom, sorry.
-/
import Derived.Test.YtbgaljpilmmefaaChecked
import GoSem.Claim
import GoSem.ClaimJoined
import GoSem.ClaimMapViews
import Derived.JoinedTies
import Derived.KernelRfl
namespace Go.Proofs.Ytbgaljpilmmefaa
/- THE CELL 'sum', in the pinned program and in every row, IS THE sha256 OF THE DUMP (.gsa) THAT YtbgaljpilmmefaaProg.lean LOADS. Nothing in Lean hashes anything: it is a label: what it is worth is what the hold of that sum in a sandbox is worth. -/
noncomputable def Try.pinned : Pinned := { name := "ytbgaljpilmmefaa", sum := "585341068c07288b9988915a060a912ce22b004ec3c5c9986daa65ad2e48602d", checked := Try.checked }
namespace Rows
def none {H : Type} : Left H := { results := [], args := [] }

/-- 'laws.FnExactStepOk': WHATEVER THE INPUT: true; the input reads as it did. -/
def fnExactStepOkSpec : ChangeSpec := { name := "fnExactStepOk", fn := fun _ => fun
  | [d1, d2] => { results := [.lit (.bool true)], args := [d1, d2] }
  | _ => none }
def fnExactStepOkRow : OpenClaim := { program := "ytbgaljpilmmefaa", sum := "585341068c07288b9988915a060a912ce22b004ec3c5c9986daa65ad2e48602d", func := "loop.example/g00192/laws.FnExactStepOk", spec := "fnExactStepOk", apart := false }
def FnExactStepOkSaid : Prop := fnExactStepOkRow.holds Try.pinned (OpenSpec.ofChange fnExactStepOkSpec)

/-- ITS FALSE NEIGHBOUR: 'it returns false'. Refute it at one input. -/
def fnExactStepOkWrong : ChangeSpec := { name := "fnExactStepOk", fn := fun _ => fun
  | [d1, d2] => { results := [.lit (.bool false)], args := [d1, d2] }
  | _ => none }
def FnExactStepOkWrongFalsely : Prop := fnExactStepOkRow.holds Try.pinned (OpenSpec.ofChange fnExactStepOkWrong)

/-- 'laws.FnNumBytes': WHATEVER THE INPUT: true; the input reads as it did. -/
def fnNumBytesSpec : ChangeSpec := { name := "fnNumBytes", fn := fun _ => fun
  | [d] => { results := [.lit (.bool true)], args := [d] }
  | _ => none }
def fnNumBytesRow : OpenClaim := { program := "ytbgaljpilmmefaa", sum := "585341068c07288b9988915a060a912ce22b004ec3c5c9986daa65ad2e48602d", func := "loop.example/g00192/laws.FnNumBytes", spec := "fnNumBytes", apart := false }
def FnNumBytesSaid : Prop := fnNumBytesRow.holds Try.pinned (OpenSpec.ofChange fnNumBytesSpec)

/-- ITS FALSE NEIGHBOUR: 'it returns false'. Refute it at one input. -/
def fnNumBytesWrong : ChangeSpec := { name := "fnNumBytes", fn := fun _ => fun
  | [d] => { results := [.lit (.bool false)], args := [d] }
  | _ => none }
def FnNumBytesWrongFalsely : Prop := fnNumBytesRow.holds Try.pinned (OpenSpec.ofChange fnNumBytesWrong)

/-- 'laws.FnExactMachineOk': WHATEVER THE INPUT: true; the input reads as it did. -/
def fnExactMachineOkSpec : ChangeSpec := { name := "fnExactMachineOk", fn := fun _ => fun
  | [d] => { results := [.lit (.bool true)], args := [d] }
  | _ => none }
def fnExactMachineOkRow : OpenClaim := { program := "ytbgaljpilmmefaa", sum := "585341068c07288b9988915a060a912ce22b004ec3c5c9986daa65ad2e48602d", func := "loop.example/g00192/laws.FnExactMachineOk", spec := "fnExactMachineOk", unfollowed := true, recurses := true, apart := false }
def FnExactMachineOkSaid : Prop := fnExactMachineOkRow.holds Try.pinned (OpenSpec.ofChange fnExactMachineOkSpec)

/-- ITS FALSE NEIGHBOUR: 'it returns false'. Refute it at one input. -/
def fnExactMachineOkWrong : ChangeSpec := { name := "fnExactMachineOk", fn := fun _ => fun
  | [d] => { results := [.lit (.bool false)], args := [d] }
  | _ => none }
def FnExactMachineOkWrongFalsely : Prop := fnExactMachineOkRow.holds Try.pinned (OpenSpec.ofChange fnExactMachineOkWrong)

/-- 'laws.FnStepOk': WHATEVER THE INPUT: true; the input reads as it did. -/
def fnStepOkSpec : ChangeSpec := { name := "fnStepOk", fn := fun _ => fun
  | [d] => { results := [.lit (.bool true)], args := [d] }
  | _ => none }
def fnStepOkRow : OpenClaim := { program := "ytbgaljpilmmefaa", sum := "585341068c07288b9988915a060a912ce22b004ec3c5c9986daa65ad2e48602d", func := "loop.example/g00192/laws.FnStepOk", spec := "fnStepOk", apart := false }
def FnStepOkSaid : Prop := fnStepOkRow.holds Try.pinned (OpenSpec.ofChange fnStepOkSpec)

/-- ITS FALSE NEIGHBOUR: 'it returns false'. Refute it at one input. -/
def fnStepOkWrong : ChangeSpec := { name := "fnStepOk", fn := fun _ => fun
  | [d] => { results := [.lit (.bool false)], args := [d] }
  | _ => none }
def FnStepOkWrongFalsely : Prop := fnStepOkRow.holds Try.pinned (OpenSpec.ofChange fnStepOkWrong)

/-- 'laws.FnExactTrimmed': WHATEVER THE INPUT: true; the input reads as it did. -/
def fnExactTrimmedSpec : ChangeSpec := { name := "fnExactTrimmed", fn := fun _ => fun
  | [d] => { results := [.lit (.bool true)], args := [d] }
  | _ => none }
def fnExactTrimmedRow : OpenClaim := { program := "ytbgaljpilmmefaa", sum := "585341068c07288b9988915a060a912ce22b004ec3c5c9986daa65ad2e48602d", func := "loop.example/g00192/laws.FnExactTrimmed", spec := "fnExactTrimmed", unfollowed := true, recurses := true, apart := false }
def FnExactTrimmedSaid : Prop := fnExactTrimmedRow.holds Try.pinned (OpenSpec.ofChange fnExactTrimmedSpec)

/-- ITS FALSE NEIGHBOUR: 'it returns false'. Refute it at one input. -/
def fnExactTrimmedWrong : ChangeSpec := { name := "fnExactTrimmed", fn := fun _ => fun
  | [d] => { results := [.lit (.bool false)], args := [d] }
  | _ => none }
def FnExactTrimmedWrongFalsely : Prop := fnExactTrimmedRow.holds Try.pinned (OpenSpec.ofChange fnExactTrimmedWrong)

/-- 'laws.FnExactEmitIns': WHATEVER THE INPUT: true; the input reads as it did. -/
def fnExactEmitInsSpec : ChangeSpec := { name := "fnExactEmitIns", fn := fun _ => fun
  | [d] => { results := [.lit (.bool true)], args := [d] }
  | _ => none }
def fnExactEmitInsRow : OpenClaim := { program := "ytbgaljpilmmefaa", sum := "585341068c07288b9988915a060a912ce22b004ec3c5c9986daa65ad2e48602d", func := "loop.example/g00192/laws.FnExactEmitIns", spec := "fnExactEmitIns", apart := false }
def FnExactEmitInsSaid : Prop := fnExactEmitInsRow.holds Try.pinned (OpenSpec.ofChange fnExactEmitInsSpec)

/-- ITS FALSE NEIGHBOUR: 'it returns false'. Refute it at one input. -/
def fnExactEmitInsWrong : ChangeSpec := { name := "fnExactEmitIns", fn := fun _ => fun
  | [d] => { results := [.lit (.bool false)], args := [d] }
  | _ => none }
def FnExactEmitInsWrongFalsely : Prop := fnExactEmitInsRow.holds Try.pinned (OpenSpec.ofChange fnExactEmitInsWrong)

/-- 'laws.FnExactTrim': WHATEVER THE INPUT: true; the input reads as it did. -/
def fnExactTrimSpec : ChangeSpec := { name := "fnExactTrim", fn := fun _ => fun
  | [d] => { results := [.lit (.bool true)], args := [d] }
  | _ => none }
def fnExactTrimRow : OpenClaim := { program := "ytbgaljpilmmefaa", sum := "585341068c07288b9988915a060a912ce22b004ec3c5c9986daa65ad2e48602d", func := "loop.example/g00192/laws.FnExactTrim", spec := "fnExactTrim", unfollowed := true, recurses := true, apart := false }
def FnExactTrimSaid : Prop := fnExactTrimRow.holds Try.pinned (OpenSpec.ofChange fnExactTrimSpec)

/-- ITS FALSE NEIGHBOUR: 'it returns false'. Refute it at one input. -/
def fnExactTrimWrong : ChangeSpec := { name := "fnExactTrim", fn := fun _ => fun
  | [d] => { results := [.lit (.bool false)], args := [d] }
  | _ => none }
def FnExactTrimWrongFalsely : Prop := fnExactTrimRow.holds Try.pinned (OpenSpec.ofChange fnExactTrimWrong)

/-- 'laws.FnEmitIns': WHATEVER THE INPUT: true; the input reads as it did. -/
def fnEmitInsSpec : ChangeSpec := { name := "fnEmitIns", fn := fun _ => fun
  | [d] => { results := [.lit (.bool true)], args := [d] }
  | _ => none }
def fnEmitInsRow : OpenClaim := { program := "ytbgaljpilmmefaa", sum := "585341068c07288b9988915a060a912ce22b004ec3c5c9986daa65ad2e48602d", func := "loop.example/g00192/laws.FnEmitIns", spec := "fnEmitIns", apart := false }
def FnEmitInsSaid : Prop := fnEmitInsRow.holds Try.pinned (OpenSpec.ofChange fnEmitInsSpec)

/-- ITS FALSE NEIGHBOUR: 'it returns false'. Refute it at one input. -/
def fnEmitInsWrong : ChangeSpec := { name := "fnEmitIns", fn := fun _ => fun
  | [d] => { results := [.lit (.bool false)], args := [d] }
  | _ => none }
def FnEmitInsWrongFalsely : Prop := fnEmitInsRow.holds Try.pinned (OpenSpec.ofChange fnEmitInsWrong)

/-- 'laws.FnExactRunMachine': WHATEVER THE INPUT: true; the input reads as it did. -/
def fnExactRunMachineSpec : ChangeSpec := { name := "fnExactRunMachine", fn := fun _ => fun
  | [d1, d2, d3] => { results := [.lit (.bool true)], args := [d1, d2, d3] }
  | _ => none }
def fnExactRunMachineRow : OpenClaim := { program := "ytbgaljpilmmefaa", sum := "585341068c07288b9988915a060a912ce22b004ec3c5c9986daa65ad2e48602d", func := "loop.example/g00192/laws.FnExactRunMachine", spec := "fnExactRunMachine", unfollowed := true, recurses := true, apart := false }
def FnExactRunMachineSaid : Prop := fnExactRunMachineRow.holds Try.pinned (OpenSpec.ofChange fnExactRunMachineSpec)

/-- ITS FALSE NEIGHBOUR: 'it returns false'. Refute it at one input. -/
def fnExactRunMachineWrong : ChangeSpec := { name := "fnExactRunMachine", fn := fun _ => fun
  | [d1, d2, d3] => { results := [.lit (.bool false)], args := [d1, d2, d3] }
  | _ => none }
def FnExactRunMachineWrongFalsely : Prop := fnExactRunMachineRow.holds Try.pinned (OpenSpec.ofChange fnExactRunMachineWrong)

/-- 'laws.FnExactPackFn': WHATEVER THE INPUT: true; the input reads as it did. -/
def fnExactPackFnSpec : ChangeSpec := { name := "fnExactPackFn", fn := fun _ => fun
  | [d] => { results := [.lit (.bool true)], args := [d] }
  | _ => none }
def fnExactPackFnRow : OpenClaim := { program := "ytbgaljpilmmefaa", sum := "585341068c07288b9988915a060a912ce22b004ec3c5c9986daa65ad2e48602d", func := "loop.example/g00192/laws.FnExactPackFn", spec := "fnExactPackFn", unfollowed := true, recurses := true, apart := false }
def FnExactPackFnSaid : Prop := fnExactPackFnRow.holds Try.pinned (OpenSpec.ofChange fnExactPackFnSpec)

/-- ITS FALSE NEIGHBOUR: 'it returns false'. Refute it at one input. -/
def fnExactPackFnWrong : ChangeSpec := { name := "fnExactPackFn", fn := fun _ => fun
  | [d] => { results := [.lit (.bool false)], args := [d] }
  | _ => none }
def FnExactPackFnWrongFalsely : Prop := fnExactPackFnRow.holds Try.pinned (OpenSpec.ofChange fnExactPackFnWrong)

/-- 'laws.FnExactUnpackFn': WHATEVER THE INPUT: true; the input reads as it did. -/
def fnExactUnpackFnSpec : ChangeSpec := { name := "fnExactUnpackFn", fn := fun _ => fun
  | [d] => { results := [.lit (.bool true)], args := [d] }
  | _ => none }
def fnExactUnpackFnRow : OpenClaim := { program := "ytbgaljpilmmefaa", sum := "585341068c07288b9988915a060a912ce22b004ec3c5c9986daa65ad2e48602d", func := "loop.example/g00192/laws.FnExactUnpackFn", spec := "fnExactUnpackFn", unfollowed := true, recurses := true, apart := false }
def FnExactUnpackFnSaid : Prop := fnExactUnpackFnRow.holds Try.pinned (OpenSpec.ofChange fnExactUnpackFnSpec)

/-- ITS FALSE NEIGHBOUR: 'it returns false'. Refute it at one input. -/
def fnExactUnpackFnWrong : ChangeSpec := { name := "fnExactUnpackFn", fn := fun _ => fun
  | [d] => { results := [.lit (.bool false)], args := [d] }
  | _ => none }
def FnExactUnpackFnWrongFalsely : Prop := fnExactUnpackFnRow.holds Try.pinned (OpenSpec.ofChange fnExactUnpackFnWrong)

/- THE SECOND FORM. 'bulk': how many values and letters a reading holds, each counted each time it is reached (what is shared counts as often as it is met; a slice's spare places count too). A statement '..UptoSaid' is the law's where the arguments, and the package variables that the reading takes, are together of bulk at most 1048576: NARROWER than '..Said'. Prove '..Said' where nothing that the law and all that it calls make is longer than what came in: it says more and counts as full. Else prove '..UptoSaid'. A law counts once. -/
mutual
def uptoBulk {H : Type} : DataW H → Nat
  | .lit (.string bytes) => bytes.length + 1
  | .lit _ => 1
  | .nil => 1
  | .ptr d => uptoBulk d + 1
  | .slice elems spare => uptoBulkAll elems + uptoBulkAll spare + 1
  | .agg parts => uptoBulkAll parts + 1
  | .iface _ d => uptoBulk d + 1
  | .map entries => uptoBulkEntries entries + 1
  | .held _ => 1
def uptoBulkAll {H : Type} : List (DataW H) → Nat
  | [] => 0
  | d :: r => uptoBulk d + uptoBulkAll r
def uptoBulkEntries {H : Type} : List (Lit × DataW H) → Nat
  | [] => 0
  | x :: r => uptoBulkEntry x + uptoBulkEntries r
def uptoBulkEntry {H : Type} : Lit × DataW H → Nat
  | (.string bytes, d) => bytes.length + uptoBulk d + 1
  | (_, d) => uptoBulk d + 1
 end
def uptoSmall : (H : Type) → List (DataW H) → Bool := fun _ ds => decide (uptoBulkAll ds ≤ 1048576)
def OpenSpec.upto (s : _root_.Go.ChangeSpec) : _root_.Go.OpenSpec := { _root_.Go.OpenSpec.ofChange s with cond := some uptoSmall }

/-- 'laws.FnExactStepOk', WHERE WHAT IT READS IS OF BULK AT MOST 1048576: true; the input reads as it did. -/
def fnExactStepOkUptoRow : OpenClaim := { program := "ytbgaljpilmmefaa", sum := "585341068c07288b9988915a060a912ce22b004ec3c5c9986daa65ad2e48602d", func := "loop.example/g00192/laws.FnExactStepOk", spec := "fnExactStepOk", apart := false, narrowed := true }
def FnExactStepOkUptoSaid : Prop := fnExactStepOkUptoRow.holds Try.pinned (OpenSpec.upto fnExactStepOkSpec)

/-- 'laws.FnNumBytes', WHERE WHAT IT READS IS OF BULK AT MOST 1048576: true; the input reads as it did. -/
def fnNumBytesUptoRow : OpenClaim := { program := "ytbgaljpilmmefaa", sum := "585341068c07288b9988915a060a912ce22b004ec3c5c9986daa65ad2e48602d", func := "loop.example/g00192/laws.FnNumBytes", spec := "fnNumBytes", apart := false, narrowed := true }
def FnNumBytesUptoSaid : Prop := fnNumBytesUptoRow.holds Try.pinned (OpenSpec.upto fnNumBytesSpec)

/-- 'laws.FnExactMachineOk', WHERE WHAT IT READS IS OF BULK AT MOST 1048576: true; the input reads as it did. -/
def fnExactMachineOkUptoRow : OpenClaim := { program := "ytbgaljpilmmefaa", sum := "585341068c07288b9988915a060a912ce22b004ec3c5c9986daa65ad2e48602d", func := "loop.example/g00192/laws.FnExactMachineOk", spec := "fnExactMachineOk", unfollowed := true, recurses := true, apart := false, narrowed := true }
def FnExactMachineOkUptoSaid : Prop := fnExactMachineOkUptoRow.holds Try.pinned (OpenSpec.upto fnExactMachineOkSpec)

/-- 'laws.FnStepOk', WHERE WHAT IT READS IS OF BULK AT MOST 1048576: true; the input reads as it did. -/
def fnStepOkUptoRow : OpenClaim := { program := "ytbgaljpilmmefaa", sum := "585341068c07288b9988915a060a912ce22b004ec3c5c9986daa65ad2e48602d", func := "loop.example/g00192/laws.FnStepOk", spec := "fnStepOk", apart := false, narrowed := true }
def FnStepOkUptoSaid : Prop := fnStepOkUptoRow.holds Try.pinned (OpenSpec.upto fnStepOkSpec)

/-- 'laws.FnExactTrimmed', WHERE WHAT IT READS IS OF BULK AT MOST 1048576: true; the input reads as it did. -/
def fnExactTrimmedUptoRow : OpenClaim := { program := "ytbgaljpilmmefaa", sum := "585341068c07288b9988915a060a912ce22b004ec3c5c9986daa65ad2e48602d", func := "loop.example/g00192/laws.FnExactTrimmed", spec := "fnExactTrimmed", unfollowed := true, recurses := true, apart := false, narrowed := true }
def FnExactTrimmedUptoSaid : Prop := fnExactTrimmedUptoRow.holds Try.pinned (OpenSpec.upto fnExactTrimmedSpec)

/-- 'laws.FnExactEmitIns', WHERE WHAT IT READS IS OF BULK AT MOST 1048576: true; the input reads as it did. -/
def fnExactEmitInsUptoRow : OpenClaim := { program := "ytbgaljpilmmefaa", sum := "585341068c07288b9988915a060a912ce22b004ec3c5c9986daa65ad2e48602d", func := "loop.example/g00192/laws.FnExactEmitIns", spec := "fnExactEmitIns", apart := false, narrowed := true }
def FnExactEmitInsUptoSaid : Prop := fnExactEmitInsUptoRow.holds Try.pinned (OpenSpec.upto fnExactEmitInsSpec)

/-- 'laws.FnExactTrim', WHERE WHAT IT READS IS OF BULK AT MOST 1048576: true; the input reads as it did. -/
def fnExactTrimUptoRow : OpenClaim := { program := "ytbgaljpilmmefaa", sum := "585341068c07288b9988915a060a912ce22b004ec3c5c9986daa65ad2e48602d", func := "loop.example/g00192/laws.FnExactTrim", spec := "fnExactTrim", unfollowed := true, recurses := true, apart := false, narrowed := true }
def FnExactTrimUptoSaid : Prop := fnExactTrimUptoRow.holds Try.pinned (OpenSpec.upto fnExactTrimSpec)

/-- 'laws.FnEmitIns', WHERE WHAT IT READS IS OF BULK AT MOST 1048576: true; the input reads as it did. -/
def fnEmitInsUptoRow : OpenClaim := { program := "ytbgaljpilmmefaa", sum := "585341068c07288b9988915a060a912ce22b004ec3c5c9986daa65ad2e48602d", func := "loop.example/g00192/laws.FnEmitIns", spec := "fnEmitIns", apart := false, narrowed := true }
def FnEmitInsUptoSaid : Prop := fnEmitInsUptoRow.holds Try.pinned (OpenSpec.upto fnEmitInsSpec)

/-- 'laws.FnExactRunMachine', WHERE WHAT IT READS IS OF BULK AT MOST 1048576: true; the input reads as it did. -/
def fnExactRunMachineUptoRow : OpenClaim := { program := "ytbgaljpilmmefaa", sum := "585341068c07288b9988915a060a912ce22b004ec3c5c9986daa65ad2e48602d", func := "loop.example/g00192/laws.FnExactRunMachine", spec := "fnExactRunMachine", unfollowed := true, recurses := true, apart := false, narrowed := true }
def FnExactRunMachineUptoSaid : Prop := fnExactRunMachineUptoRow.holds Try.pinned (OpenSpec.upto fnExactRunMachineSpec)

/-- 'laws.FnExactPackFn', WHERE WHAT IT READS IS OF BULK AT MOST 1048576: true; the input reads as it did. -/
def fnExactPackFnUptoRow : OpenClaim := { program := "ytbgaljpilmmefaa", sum := "585341068c07288b9988915a060a912ce22b004ec3c5c9986daa65ad2e48602d", func := "loop.example/g00192/laws.FnExactPackFn", spec := "fnExactPackFn", unfollowed := true, recurses := true, apart := false, narrowed := true }
def FnExactPackFnUptoSaid : Prop := fnExactPackFnUptoRow.holds Try.pinned (OpenSpec.upto fnExactPackFnSpec)

/-- 'laws.FnExactUnpackFn', WHERE WHAT IT READS IS OF BULK AT MOST 1048576: true; the input reads as it did. -/
def fnExactUnpackFnUptoRow : OpenClaim := { program := "ytbgaljpilmmefaa", sum := "585341068c07288b9988915a060a912ce22b004ec3c5c9986daa65ad2e48602d", func := "loop.example/g00192/laws.FnExactUnpackFn", spec := "fnExactUnpackFn", unfollowed := true, recurses := true, apart := false, narrowed := true }
def FnExactUnpackFnUptoSaid : Prop := fnExactUnpackFnUptoRow.holds Try.pinned (OpenSpec.upto fnExactUnpackFnSpec)

end Rows
end Go.Proofs.Ytbgaljpilmmefaa
