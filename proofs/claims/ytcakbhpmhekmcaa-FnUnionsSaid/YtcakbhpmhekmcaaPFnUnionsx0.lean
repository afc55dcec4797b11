-- Printed by this session's own program (wip/tools)
import Derived.Test.YtcakbhpmhekmcaaProg
import Derived.Below
import Derived.Deep.Draws
import Derived.Deep.AppendLies
import Derived.Maps.AppendAt
import Derived.OwnWalk
import Derived.Laws.BytesArg
import Derived.Laws.MakeOwn
import Derived.Laws.OwnMore
import Derived.Deep.OwnRows
import Derived.Tactics
import Derived.Lib.ConvBytes
import Derived.Laws.Slices
import Derived.WalkKit
import Derived.KernelRfl
import Derived.RowKit3
import Derived.Deep.LoopGhost
import Derived.Deep.QuietTactic
import Derived.BigQuiet
import Derived.WideLaws
import Derived.Deep.DeepCutAuto
import Derived.Deep.CutBlock
import Derived.Deep.RegionHeld3
import Derived.Laws.Rows
import Derived.Lib.AppendStr
import Derived.ArgAppend
import Derived.Laws.IdiomCopy
import Derived.OrdersHeld
import Derived.Laws.BitsLemmas
import Derived.RowKit
import Derived.Test.YtcakbhpmhekmcaaWWords
import Derived.Test.YtcakbhpmhekmcaaWLast
import Derived.Test.YtcakbhpmhekmcaaWTab
import Derived.Test.YtcakbhpmhekmcaaWFour
import Derived.Test.YtcakbhpmhekmcaaWQPut
import Derived.Test.YtcakbhpmhekmcaaWApart
import Derived.Test.YtcakbhpmhekmcaaWArr
import Derived.Test.YtcakbhpmhekmcaaWZeros
import Derived.Test.YtcakbhpmhekmcaaWFoot
import Derived.Test.YtcakbhpmhekmcaaWKept
import Derived.Test.YtcakbhpmhekmcaaWShare
import Derived.Test.YtcakbhpmhekmcaaWN
import Derived.Test.YtcakbhpmhekmcaaWFootNe
import Derived.Test.YtcakbhpmhekmcaaWAt
import Derived.Test.YtcakbhpmhekmcaaWEqStruct
import Derived.Test.YtcakbhpmhekmcaaWRepsOne
import Derived.Test.YtcakbhpmhekmcaaWInv
import Derived.Test.YtcakbhpmhekmcaaWInvWords
import Derived.Test.YtcakbhpmhekmcaaWGuard
import Derived.Test.YtcakbhpmhekmcaaWNEv
import Derived.Test.YtcakbhpmhekmcaaWMore
namespace Go.Proofs.Ytcakbhpmhekmcaa.PFnUnions
open Go.RowKit Go.Proofs.YtcakbhpmhekmcaaW.PrintWords Go.Proofs.YtcakbhpmhekmcaaW.PrintLast Go.Proofs.YtcakbhpmhekmcaaW.PrintMore
attribute [local go_sem] max2_int min2_int max_two min_two max_three min_three max_four min_four   -- for this text's walks alone
set_option linter.unusedVariables false
set_option linter.unusedSimpArgs false



def errW : Option Int → Value
  | none => .nilIface
  | some c => .iface 0 (.int .i64 c)
theorem errW_none : errW none = .nilIface := rfl
theorem errW_some (c : Int) : errW (some c) = .iface 0 (.int .i64 c) := rfl

theorem info3 : (Try.prog.info? 3).map (fun i => (i.zero, i.size, i.bytes)) = some (some (.int .i64 0), 1, 8) := by kernel_rfl
-- the values' own types

end Go.Proofs.Ytcakbhpmhekmcaa.PFnUnions
