-- Printed by this session's own program (wip/tools)
import Derived.Test.YthalbnikkhaobaaDoorProg
import Derived.Test.YthalbnikkhaobaaDoorExtra
import Derived.Below
import Derived.Deep.Draws
import Derived.Deep.AppendLies
import Derived.Maps.AppendAt
import Derived.OwnWalk
import Derived.Laws.BytesArg
import Derived.Laws.MakeOwn
import Derived.Laws.OwnMore
import Derived.Deep.OwnRows
import Derived.Tactics
import Derived.Lib.ConvBytes
import Derived.Laws.Slices
import Derived.WalkKit
import Derived.KernelRfl
import Derived.RowKit3
import Derived.Deep.LoopGhost
import Derived.Deep.QuietTactic
import Derived.BigQuiet
import Derived.WideLaws
import Derived.Deep.DeepCutAuto
import Derived.Deep.CutBlock
import Derived.Deep.RegionHeld3
import Derived.Laws.Rows
import Derived.Lib.AppendStr
import Derived.ArgAppend
import Derived.Laws.IdiomCopy
import Derived.OrdersHeld
import Derived.Laws.BitsLemmas
import Derived.RowKit
import Derived.Test.YthalbnikkhaobaaDoorWWords
import Derived.Test.YthalbnikkhaobaaDoorWLast
import Derived.Test.YthalbnikkhaobaaDoorWTab
import Derived.Test.YthalbnikkhaobaaDoorWFour
import Derived.Test.YthalbnikkhaobaaDoorWQPut
import Derived.Test.YthalbnikkhaobaaDoorWApart
import Derived.Test.YthalbnikkhaobaaDoorWArr
import Derived.Test.YthalbnikkhaobaaDoorWZeros
import Derived.Test.YthalbnikkhaobaaDoorWFoot
import Derived.Test.YthalbnikkhaobaaDoorWKept
import Derived.Test.YthalbnikkhaobaaDoorWShare
import Derived.Test.YthalbnikkhaobaaDoorWN
import Derived.Test.YthalbnikkhaobaaDoorWFootNe
import Derived.Test.YthalbnikkhaobaaDoorWAt
import Derived.Test.YthalbnikkhaobaaDoorWEqStruct
import Derived.Test.YthalbnikkhaobaaDoorWRepsOne
import Derived.Test.YthalbnikkhaobaaDoorWInv
import Derived.Test.YthalbnikkhaobaaDoorWInvWords
import Derived.Test.YthalbnikkhaobaaDoorWGuard
import Derived.Test.YthalbnikkhaobaaDoorWNEv
import Derived.Test.YthalbnikkhaobaaDoorWMore
namespace Go.Proofs.YthalbnikkhaobaaDoor.PFnExactShowInts
open Go.RowKit Go.Proofs.YthalbnikkhaobaaDoorW.PrintWords Go.Proofs.YthalbnikkhaobaaDoorW.PrintLast Go.Proofs.YthalbnikkhaobaaDoorW.PrintMore
attribute [local go_sem] max2_int min2_int max_two min_two max_three min_three max_four min_four   -- for this text's walks alone
set_option linter.unusedVariables false
set_option linter.unusedSimpArgs false



def errW : Option Int → Value
  | none => .nilIface
  | some c => .iface 0 (.int .i64 c)
theorem errW_none : errW none = .nilIface := rfl
theorem errW_some (c : Int) : errW (some c) = .iface 0 (.int .i64 c) := rfl

theorem info3 : (Tryd.prog.info? 3).map (fun i => (i.zero, i.size, i.bytes)) = some (some (.int .i64 0), 1, 8) := by kernel_rfl
theorem info5 : (Tryd.prog.info? 5).map (fun i => (i.zero, i.size, i.bytes)) = some (some (.int .u8 0), 1, 1) := by kernel_rfl
-- the values' own types

end Go.Proofs.YthalbnikkhaobaaDoor.PFnExactShowInts
