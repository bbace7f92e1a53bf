/-
  No cell of these rows narrows 'for every input' (looked for: loops, veiled, ifaces, maps, wideKeys, modest, calm, conditions, laid).
  DERIVED. THE GIVEN ROWS OF THIS SEAT. 5 by the template 'for every input the law returns true; each argument reads behind the call as it read before'; 0 by the template 'total and deterministic' (their statements: YtjkcliabfboecaaTotals.lean).
  GIVEN WITH THE SEED: the statements are not yours to turn. If you find one false, say at which input.
  Laid BY PROGRAM, IN A SANDBOX (cutbox-rows.mjs): the forced cells as the released guide's own fill.sh prints them over the translation 337e5c2e696b1b34… (all of the seat's roots in one cut). By AI agents, Wed Nov 11 2026. No macro, syntax, notation, axiom, sorry.
-/
import Derived.Test.YtjkcliabfboecaaChecked
import GoSem.Claim
import GoSem.ClaimJoined
import GoSem.ClaimMapViews
import Derived.JoinedTies
import Derived.KernelRfl
namespace Go.Proofs.Ytjkcliabfboecaa
/- THE CELL 'sum', in the pinned program and in every row, IS THE sha256 OF THE DUMP (.gsa) THAT YtjkcliabfboecaaProg.lean LOADS. Nothing in Lean hashes anything: it is a label: what it is worth is what the hold of that sum in a sandbox is worth. -/
noncomputable def Try.pinned : Pinned := { name := "ytjkcliabfboecaa", sum := "337e5c2e696b1b346559fedaa665d5195174007f5db2fa029fc765041d3484b4", checked := Try.checked }
namespace Rows
def none {H : Type} : Left H := { results := [], args := [] }

/-- 'laws.FnExactHomesOk': WHATEVER THE INPUT: true; the input reads as it did. -/
def fnExactHomesOkSpec : ChangeSpec := { name := "fnExactHomesOk", fn := fun _ => fun
  | [d1, d2] => { results := [.lit (.bool true)], args := [d1, d2] }
  | _ => none }
def fnExactHomesOkRow : OpenClaim := { program := "ytjkcliabfboecaa", sum := "337e5c2e696b1b346559fedaa665d5195174007f5db2fa029fc765041d3484b4", func := "loop.example/g00192/laws.FnExactHomesOk", spec := "fnExactHomesOk", unfollowed := true, recurses := true, apart := false }
def FnExactHomesOkSaid : Prop := fnExactHomesOkRow.holds Try.pinned (OpenSpec.ofChange fnExactHomesOkSpec)

/-- ITS FALSE NEIGHBOUR: 'it returns false'. Refute it at one input. -/
def fnExactHomesOkWrong : ChangeSpec := { name := "fnExactHomesOk", fn := fun _ => fun
  | [d1, d2] => { results := [.lit (.bool false)], args := [d1, d2] }
  | _ => none }
def FnExactHomesOkWrongFalsely : Prop := fnExactHomesOkRow.holds Try.pinned (OpenSpec.ofChange fnExactHomesOkWrong)

/-- 'laws.FnExactLiveAt': WHATEVER THE INPUT: true; the input reads as it did. -/
def fnExactLiveAtSpec : ChangeSpec := { name := "fnExactLiveAt", fn := fun _ => fun
  | [d1, d2, d3] => { results := [.lit (.bool true)], args := [d1, d2, d3] }
  | _ => none }
def fnExactLiveAtRow : OpenClaim := { program := "ytjkcliabfboecaa", sum := "337e5c2e696b1b346559fedaa665d5195174007f5db2fa029fc765041d3484b4", func := "loop.example/g00192/laws.FnExactLiveAt", spec := "fnExactLiveAt", unfollowed := true, recurses := true, apart := false }
def FnExactLiveAtSaid : Prop := fnExactLiveAtRow.holds Try.pinned (OpenSpec.ofChange fnExactLiveAtSpec)

/-- ITS FALSE NEIGHBOUR: 'it returns false'. Refute it at one input. -/
def fnExactLiveAtWrong : ChangeSpec := { name := "fnExactLiveAt", fn := fun _ => fun
  | [d1, d2, d3] => { results := [.lit (.bool false)], args := [d1, d2, d3] }
  | _ => none }
def FnExactLiveAtWrongFalsely : Prop := fnExactLiveAtRow.holds Try.pinned (OpenSpec.ofChange fnExactLiveAtWrong)

/-- 'laws.FnExactLiveIn': WHATEVER THE INPUT: true; the input reads as it did. -/
def fnExactLiveInSpec : ChangeSpec := { name := "fnExactLiveIn", fn := fun _ => fun
  | [d] => { results := [.lit (.bool true)], args := [d] }
  | _ => none }
def fnExactLiveInRow : OpenClaim := { program := "ytjkcliabfboecaa", sum := "337e5c2e696b1b346559fedaa665d5195174007f5db2fa029fc765041d3484b4", func := "loop.example/g00192/laws.FnExactLiveIn", spec := "fnExactLiveIn", unfollowed := true, recurses := true, apart := false }
def FnExactLiveInSaid : Prop := fnExactLiveInRow.holds Try.pinned (OpenSpec.ofChange fnExactLiveInSpec)

/-- ITS FALSE NEIGHBOUR: 'it returns false'. Refute it at one input. -/
def fnExactLiveInWrong : ChangeSpec := { name := "fnExactLiveIn", fn := fun _ => fun
  | [d] => { results := [.lit (.bool false)], args := [d] }
  | _ => none }
def FnExactLiveInWrongFalsely : Prop := fnExactLiveInRow.holds Try.pinned (OpenSpec.ofChange fnExactLiveInWrong)

/-- 'laws.FnExactLiveOut': WHATEVER THE INPUT: true; the input reads as it did. -/
def fnExactLiveOutSpec : ChangeSpec := { name := "fnExactLiveOut", fn := fun _ => fun
  | [d] => { results := [.lit (.bool true)], args := [d] }
  | _ => none }
def fnExactLiveOutRow : OpenClaim := { program := "ytjkcliabfboecaa", sum := "337e5c2e696b1b346559fedaa665d5195174007f5db2fa029fc765041d3484b4", func := "loop.example/g00192/laws.FnExactLiveOut", spec := "fnExactLiveOut", unfollowed := true, recurses := true, apart := false }
def FnExactLiveOutSaid : Prop := fnExactLiveOutRow.holds Try.pinned (OpenSpec.ofChange fnExactLiveOutSpec)

/-- ITS FALSE NEIGHBOUR: 'it returns false'. Refute it at one input. -/
def fnExactLiveOutWrong : ChangeSpec := { name := "fnExactLiveOut", fn := fun _ => fun
  | [d] => { results := [.lit (.bool false)], args := [d] }
  | _ => none }
def FnExactLiveOutWrongFalsely : Prop := fnExactLiveOutRow.holds Try.pinned (OpenSpec.ofChange fnExactLiveOutWrong)

/-- 'laws.FnExactClashes': WHATEVER THE INPUT: true; the input reads as it did. -/
def fnExactClashesSpec : ChangeSpec := { name := "fnExactClashes", fn := fun _ => fun
  | [d] => { results := [.lit (.bool true)], args := [d] }
  | _ => none }
def fnExactClashesRow : OpenClaim := { program := "ytjkcliabfboecaa", sum := "337e5c2e696b1b346559fedaa665d5195174007f5db2fa029fc765041d3484b4", func := "loop.example/g00192/laws.FnExactClashes", spec := "fnExactClashes", unfollowed := true, recurses := true, apart := false }
def FnExactClashesSaid : Prop := fnExactClashesRow.holds Try.pinned (OpenSpec.ofChange fnExactClashesSpec)

/-- ITS FALSE NEIGHBOUR: 'it returns false'. Refute it at one input. -/
def fnExactClashesWrong : ChangeSpec := { name := "fnExactClashes", fn := fun _ => fun
  | [d] => { results := [.lit (.bool false)], args := [d] }
  | _ => none }
def FnExactClashesWrongFalsely : Prop := fnExactClashesRow.holds Try.pinned (OpenSpec.ofChange fnExactClashesWrong)

/- THE SECOND FORM. 'bulk': how many values and letters a reading holds, each counted each time it is reached (what is shared counts as often as it is met; a slice's spare places count too). A statement '..UptoSaid' is the law's where the arguments, and the package variables that the reading takes, are together of bulk at most 1048576: NARROWER than '..Said'. Prove '..Said' where nothing that the law and all that it calls make is longer than what came in: it says more and counts as full. Else prove '..UptoSaid'. A law counts once. -/
mutual
def uptoBulk {H : Type} : DataW H → Nat
  | .lit (.string bytes) => bytes.length + 1
  | .lit _ => 1
  | .nil => 1
  | .ptr d => uptoBulk d + 1
  | .slice elems spare => uptoBulkAll elems + uptoBulkAll spare + 1
  | .agg parts => uptoBulkAll parts + 1
  | .iface _ d => uptoBulk d + 1
  | .map entries => uptoBulkEntries entries + 1
  | .held _ => 1
def uptoBulkAll {H : Type} : List (DataW H) → Nat
  | [] => 0
  | d :: r => uptoBulk d + uptoBulkAll r
def uptoBulkEntries {H : Type} : List (Lit × DataW H) → Nat
  | [] => 0
  | x :: r => uptoBulkEntry x + uptoBulkEntries r
def uptoBulkEntry {H : Type} : Lit × DataW H → Nat
  | (.string bytes, d) => bytes.length + uptoBulk d + 1
  | (_, d) => uptoBulk d + 1
 end
def uptoSmall : (H : Type) → List (DataW H) → Bool := fun _ ds => decide (uptoBulkAll ds ≤ 1048576)
def OpenSpec.upto (s : _root_.Go.ChangeSpec) : _root_.Go.OpenSpec := { _root_.Go.OpenSpec.ofChange s with cond := some uptoSmall }

/-- 'laws.FnExactHomesOk', WHERE WHAT IT READS IS OF BULK AT MOST 1048576: true; the input reads as it did. -/
def fnExactHomesOkUptoRow : OpenClaim := { program := "ytjkcliabfboecaa", sum := "337e5c2e696b1b346559fedaa665d5195174007f5db2fa029fc765041d3484b4", func := "loop.example/g00192/laws.FnExactHomesOk", spec := "fnExactHomesOk", unfollowed := true, recurses := true, apart := false, narrowed := true }
def FnExactHomesOkUptoSaid : Prop := fnExactHomesOkUptoRow.holds Try.pinned (OpenSpec.upto fnExactHomesOkSpec)

/-- 'laws.FnExactLiveAt', WHERE WHAT IT READS IS OF BULK AT MOST 1048576: true; the input reads as it did. -/
def fnExactLiveAtUptoRow : OpenClaim := { program := "ytjkcliabfboecaa", sum := "337e5c2e696b1b346559fedaa665d5195174007f5db2fa029fc765041d3484b4", func := "loop.example/g00192/laws.FnExactLiveAt", spec := "fnExactLiveAt", unfollowed := true, recurses := true, apart := false, narrowed := true }
def FnExactLiveAtUptoSaid : Prop := fnExactLiveAtUptoRow.holds Try.pinned (OpenSpec.upto fnExactLiveAtSpec)

/-- 'laws.FnExactLiveIn', WHERE WHAT IT READS IS OF BULK AT MOST 1048576: true; the input reads as it did. -/
def fnExactLiveInUptoRow : OpenClaim := { program := "ytjkcliabfboecaa", sum := "337e5c2e696b1b346559fedaa665d5195174007f5db2fa029fc765041d3484b4", func := "loop.example/g00192/laws.FnExactLiveIn", spec := "fnExactLiveIn", unfollowed := true, recurses := true, apart := false, narrowed := true }
def FnExactLiveInUptoSaid : Prop := fnExactLiveInUptoRow.holds Try.pinned (OpenSpec.upto fnExactLiveInSpec)

/-- 'laws.FnExactLiveOut', WHERE WHAT IT READS IS OF BULK AT MOST 1048576: true; the input reads as it did. -/
def fnExactLiveOutUptoRow : OpenClaim := { program := "ytjkcliabfboecaa", sum := "337e5c2e696b1b346559fedaa665d5195174007f5db2fa029fc765041d3484b4", func := "loop.example/g00192/laws.FnExactLiveOut", spec := "fnExactLiveOut", unfollowed := true, recurses := true, apart := false, narrowed := true }
def FnExactLiveOutUptoSaid : Prop := fnExactLiveOutUptoRow.holds Try.pinned (OpenSpec.upto fnExactLiveOutSpec)

/-- 'laws.FnExactClashes', WHERE WHAT IT READS IS OF BULK AT MOST 1048576: true; the input reads as it did. -/
def fnExactClashesUptoRow : OpenClaim := { program := "ytjkcliabfboecaa", sum := "337e5c2e696b1b346559fedaa665d5195174007f5db2fa029fc765041d3484b4", func := "loop.example/g00192/laws.FnExactClashes", spec := "fnExactClashes", unfollowed := true, recurses := true, apart := false, narrowed := true }
def FnExactClashesUptoSaid : Prop := fnExactClashesUptoRow.holds Try.pinned (OpenSpec.upto fnExactClashesSpec)

end Rows
end Go.Proofs.Ytjkcliabfboecaa
