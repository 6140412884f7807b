-- written by a program of this session (wip/gen/xpatch.py over the translation); Lean checks it
import Derived.Test.YtmajcgcnnpkhfaaProg
import Derived.Below
import Derived.Deep.Draws
import Derived.Deep.AppendLies
import Derived.Maps.AppendAt
import Derived.OwnWalk
import Derived.Laws.BytesArg
import Derived.Laws.MakeOwn
import Derived.Laws.OwnMore
import Derived.Deep.OwnRows
import Derived.Tactics
import Derived.Lib.ConvBytes
import Derived.Laws.Slices
import Derived.WalkKit
import Derived.KernelRfl
import Derived.RowKit3
import Derived.Deep.LoopGhost
import Derived.Deep.QuietTactic
import Derived.BigQuiet
import Derived.WideLaws
import Derived.Deep.DeepCutAuto
import Derived.Deep.CutBlock
import Derived.Deep.RegionHeld3
import Derived.Laws.Rows
import Derived.Lib.AppendStr
import Derived.ArgAppend
import Derived.Laws.IdiomCopy
import Derived.OrdersHeld
import Derived.Laws.BitsLemmas
import Derived.RowKit
import Derived.Test.YtmajcgcnnpkhfaaWWords
import Derived.Test.YtmajcgcnnpkhfaaWLast
import Derived.Test.YtmajcgcnnpkhfaaWTab
import Derived.Test.YtmajcgcnnpkhfaaWFour
import Derived.Test.YtmajcgcnnpkhfaaWQPut
import Derived.Test.YtmajcgcnnpkhfaaWApart
import Derived.Test.YtmajcgcnnpkhfaaWArr
import Derived.Test.YtmajcgcnnpkhfaaWZeros
import Derived.Test.YtmajcgcnnpkhfaaWFoot
import Derived.Test.YtmajcgcnnpkhfaaWKept
import Derived.Test.YtmajcgcnnpkhfaaWShare
import Derived.Test.YtmajcgcnnpkhfaaWN
import Derived.Test.YtmajcgcnnpkhfaaWFootNe
import Derived.Test.YtmajcgcnnpkhfaaWAt
import Derived.Test.YtmajcgcnnpkhfaaWEqStruct
import Derived.Test.YtmajcgcnnpkhfaaWRepsOne
import Derived.Test.YtmajcgcnnpkhfaaWInv
import Derived.Test.YtmajcgcnnpkhfaaWInvWords
import Derived.Test.YtmajcgcnnpkhfaaWGuard
import Derived.Test.YtmajcgcnnpkhfaaWNEv
import Derived.Test.YtmajcgcnnpkhfaaWMore
import Derived.Test.YtmajcgcnnpkhfaaHandE
import Derived.Test.YtmajcgcnnpkhfaaHandL
namespace Go.Proofs.Ytmajcgcnnpkhfaa.PAll
open Go.RowKit Go.Proofs.Ytmajcgcnnpkhfaa.Hand Go.Proofs.YtmajcgcnnpkhfaaW.PrintWords Go.Proofs.YtmajcgcnnpkhfaaW.PrintLast Go.Proofs.YtmajcgcnnpkhfaaW.PrintMore
attribute [local go_sem] max2_int min2_int max_two min_two max_three min_three max_four min_four   -- for this text's walks alone
set_option linter.unusedVariables false
set_option linter.unusedSimpArgs false



def errW : Option Int → Value
  | none => .nilIface
  | some c => .iface 0 (.int .i64 c)
theorem errW_none : errW none = .nilIface := rfl
theorem errW_some (c : Int) : errW (some c) = .iface 0 (.int .i64 c) := rfl

theorem info3 : (Try.prog.info? 3).map (fun i => (i.zero, i.size, i.bytes)) = some (some (.int .i64 0), 1, 8) := by kernel_rfl
-- the values' own types

end Go.Proofs.Ytmajcgcnnpkhfaa.PAll
