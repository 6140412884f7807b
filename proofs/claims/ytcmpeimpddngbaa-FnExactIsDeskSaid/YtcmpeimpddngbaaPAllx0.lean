-- written by a program of this session (wip/gen/xpatch.py over the translation); Lean checks it
import Derived.Test.YtcmpeimpddngbaaProg
import Derived.Below
import Derived.Deep.Draws
import Derived.Deep.AppendLies
import Derived.Maps.AppendAt
import Derived.OwnWalk
import Derived.Laws.BytesArg
import Derived.Laws.MakeOwn
import Derived.Laws.OwnMore
import Derived.Deep.OwnRows
import Derived.Tactics
import Derived.Lib.ConvBytes
import Derived.Laws.Slices
import Derived.WalkKit
import Derived.KernelRfl
import Derived.RowKit3
import Derived.Deep.LoopGhost
import Derived.Deep.QuietTactic
import Derived.BigQuiet
import Derived.WideLaws
import Derived.Deep.DeepCutAuto
import Derived.Deep.CutBlock
import Derived.Deep.RegionHeld3
import Derived.Laws.Rows
import Derived.Lib.AppendStr
import Derived.ArgAppend
import Derived.Laws.IdiomCopy
import Derived.OrdersHeld
import Derived.Laws.BitsLemmas
import Derived.RowKit
import Derived.Test.YtcmpeimpddngbaaWWords
import Derived.Test.YtcmpeimpddngbaaWLast
import Derived.Test.YtcmpeimpddngbaaWTab
import Derived.Test.YtcmpeimpddngbaaWFour
import Derived.Test.YtcmpeimpddngbaaWQPut
import Derived.Test.YtcmpeimpddngbaaWApart
import Derived.Test.YtcmpeimpddngbaaWArr
import Derived.Test.YtcmpeimpddngbaaWZeros
import Derived.Test.YtcmpeimpddngbaaWFoot
import Derived.Test.YtcmpeimpddngbaaWKept
import Derived.Test.YtcmpeimpddngbaaWShare
import Derived.Test.YtcmpeimpddngbaaWN
import Derived.Test.YtcmpeimpddngbaaWFootNe
import Derived.Test.YtcmpeimpddngbaaWAt
import Derived.Test.YtcmpeimpddngbaaWEqStruct
import Derived.Test.YtcmpeimpddngbaaWRepsOne
import Derived.Test.YtcmpeimpddngbaaWInv
import Derived.Test.YtcmpeimpddngbaaWInvWords
import Derived.Test.YtcmpeimpddngbaaWGuard
import Derived.Test.YtcmpeimpddngbaaWNEv
import Derived.Test.YtcmpeimpddngbaaWMore
import Derived.Test.YtcmpeimpddngbaaHandC
import Derived.Test.YtcmpeimpddngbaaHandF
namespace Go.Proofs.Ytcmpeimpddngbaa.PAll
open Go.RowKit Go.Proofs.Ytcmpeimpddngbaa.Hand Go.Proofs.YtcmpeimpddngbaaW.PrintWords Go.Proofs.YtcmpeimpddngbaaW.PrintLast Go.Proofs.YtcmpeimpddngbaaW.PrintMore
attribute [local go_sem] max2_int min2_int max_two min_two max_three min_three max_four min_four   -- for this text's walks alone
set_option linter.unusedVariables false
set_option linter.unusedSimpArgs false



def errW : Option Int → Value
  | none => .nilIface
  | some c => .iface 0 (.int .i64 c)
theorem errW_none : errW none = .nilIface := rfl
theorem errW_some (c : Int) : errW (some c) = .iface 0 (.int .i64 c) := rfl

theorem info3 : (Try.prog.info? 3).map (fun i => (i.zero, i.size, i.bytes)) = some (some (.int .i64 0), 1, 8) := by kernel_rfl
theorem info4 : (Try.prog.info? 4).map (fun i => (i.zero, i.size, i.bytes)) = some (some (.bool false), 1, 1) := by kernel_rfl
-- the values' own types

end Go.Proofs.Ytcmpeimpddngbaa.PAll
