-- PRINTED BY print.sh 35421559b90ae4d0a3588c463048766b98c2df88dd9212a6774a882060cdf62d: not written by this session
import Derived.Test.YthkabndeolefpaaProg
import Derived.Below
import Derived.Deep.Draws
import Derived.Deep.AppendLies
import Derived.Maps.AppendAt
import Derived.OwnWalk
import Derived.Laws.BytesArg
import Derived.Laws.MakeOwn
import Derived.Laws.OwnMore
import Derived.Deep.OwnRows
import Derived.Tactics
import Derived.Lib.ConvBytes
import Derived.Laws.Slices
import Derived.WalkKit
import Derived.KernelRfl
import Derived.RowKit3
import Derived.Deep.LoopGhost
import Derived.Deep.QuietTactic
import Derived.BigQuiet
import Derived.WideLaws
import Derived.Deep.DeepCutAuto
import Derived.Deep.CutBlock
import Derived.Deep.RegionHeld3
import Derived.Laws.Rows
import Derived.Lib.AppendStr
import Derived.ArgAppend
import Derived.Laws.IdiomCopy
import Derived.OrdersHeld
import Derived.Laws.BitsLemmas
import Derived.RowKit
import Derived.Test.YthkabndeolefpaaWWords
import Derived.Test.YthkabndeolefpaaWLast
import Derived.Test.YthkabndeolefpaaWTab
import Derived.Test.YthkabndeolefpaaWFour
import Derived.Test.YthkabndeolefpaaWQPut
import Derived.Test.YthkabndeolefpaaWApart
import Derived.Test.YthkabndeolefpaaWArr
import Derived.Test.YthkabndeolefpaaWZeros
import Derived.Test.YthkabndeolefpaaWFoot
import Derived.Test.YthkabndeolefpaaWKept
import Derived.Test.YthkabndeolefpaaWShare
import Derived.Test.YthkabndeolefpaaWN
import Derived.Test.YthkabndeolefpaaWFootNe
import Derived.Test.YthkabndeolefpaaWAt
import Derived.Test.YthkabndeolefpaaWEqStruct
import Derived.Test.YthkabndeolefpaaWRepsOne
import Derived.Test.YthkabndeolefpaaWInv
import Derived.Test.YthkabndeolefpaaWInvWords
import Derived.Test.YthkabndeolefpaaWGuard
import Derived.Test.YthkabndeolefpaaWNEv
import Derived.Test.YthkabndeolefpaaWMore
namespace Go.Proofs.Ythkabndeolefpaa.PFnExactUnpackNum
open Go.RowKit Go.Proofs.YthkabndeolefpaaW.PrintWords Go.Proofs.YthkabndeolefpaaW.PrintLast Go.Proofs.YthkabndeolefpaaW.PrintMore
attribute [local go_sem] max2_int min2_int max_two min_two max_three min_three max_four min_four   -- for this text's walks alone
set_option linter.unusedVariables false
set_option linter.unusedSimpArgs false



def errW : Option Int → Value
  | none => .nilIface
  | some c => .iface 0 (.int .i64 c)
theorem errW_none : errW none = .nilIface := rfl
theorem errW_some (c : Int) : errW (some c) = .iface 0 (.int .i64 c) := rfl

theorem info5 : (Try.prog.info? 5).map (fun i => (i.zero, i.size, i.bytes)) = some (some (.int .u8 0), 1, 1) := by kernel_rfl
-- the values' own types

end Go.Proofs.Ythkabndeolefpaa.PFnExactUnpackNum
