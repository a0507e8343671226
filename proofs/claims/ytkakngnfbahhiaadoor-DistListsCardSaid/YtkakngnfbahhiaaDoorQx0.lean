/- Contracts over this seat's translation, written by a program (wip/prx.py); Lean checks them. -/
import Derived.Test.YtkakngnfbahhiaaDoorProg
import Derived.Below
import Derived.Deep.Draws
import Derived.Deep.AppendLies
import Derived.Maps.AppendAt
import Derived.OwnWalk
import Derived.Laws.BytesArg
import Derived.Laws.MakeOwn
import Derived.Laws.OwnMore
import Derived.Deep.OwnRows
import Derived.Tactics
import Derived.Lib.ConvBytes
import Derived.Laws.Slices
import Derived.WalkKit
import Derived.KernelRfl
import Derived.RowKit3
import Derived.Deep.LoopGhost
import Derived.Deep.QuietTactic
import Derived.BigQuiet
import Derived.WideLaws
import Derived.Deep.DeepCutAuto
import Derived.Deep.CutBlock
import Derived.Deep.RegionHeld3
import Derived.Laws.Rows
import Derived.Lib.AppendStr
import Derived.ArgAppend
import Derived.Laws.IdiomCopy
import Derived.OrdersHeld
import Derived.Laws.BitsLemmas
import Derived.RowKit
import Derived.Test.YtkakngnfbahhiaaDoorWWords
import Derived.Test.YtkakngnfbahhiaaDoorWLast
import Derived.Test.YtkakngnfbahhiaaDoorWTab
import Derived.Test.YtkakngnfbahhiaaDoorWFour
import Derived.Test.YtkakngnfbahhiaaDoorWQPut
import Derived.Test.YtkakngnfbahhiaaDoorWApart
import Derived.Test.YtkakngnfbahhiaaDoorWArr
import Derived.Test.YtkakngnfbahhiaaDoorWZeros
import Derived.Test.YtkakngnfbahhiaaDoorWFoot
import Derived.Test.YtkakngnfbahhiaaDoorWKept
import Derived.Test.YtkakngnfbahhiaaDoorWShare
import Derived.Test.YtkakngnfbahhiaaDoorWN
import Derived.Test.YtkakngnfbahhiaaDoorWFootNe
import Derived.Test.YtkakngnfbahhiaaDoorWAt
import Derived.Test.YtkakngnfbahhiaaDoorWEqStruct
import Derived.Test.YtkakngnfbahhiaaDoorWRepsOne
import Derived.Test.YtkakngnfbahhiaaDoorWInv
import Derived.Test.YtkakngnfbahhiaaDoorWInvWords
import Derived.Test.YtkakngnfbahhiaaDoorWGuard
import Derived.Test.YtkakngnfbahhiaaDoorWNEv
import Derived.Test.YtkakngnfbahhiaaDoorWMore
namespace Go.Proofs.YtkakngnfbahhiaaDoor.Q
open Go.RowKit Go.Proofs.YtkakngnfbahhiaaDoorW.PrintWords Go.Proofs.YtkakngnfbahhiaaDoorW.PrintLast Go.Proofs.YtkakngnfbahhiaaDoorW.PrintMore
attribute [local go_sem] max2_int min2_int max_two min_two max_three min_three max_four min_four   -- for this text's walks alone
set_option linter.unusedVariables false
set_option linter.unusedSimpArgs false



def errW : Option Int → Value
  | none => .nilIface
  | some c => .iface 0 (.int .i64 c)
theorem errW_none : errW none = .nilIface := rfl
theorem errW_some (c : Int) : errW (some c) = .iface 0 (.int .i64 c) := rfl

theorem info23 : (Tryd.prog.info? 23).map (fun i => (i.zero, i.size, i.bytes)) = some (some (.int .u64 0), 1, 8) := by kernel_rfl
-- the values' own types

end Go.Proofs.YtkakngnfbahhiaaDoor.Q
