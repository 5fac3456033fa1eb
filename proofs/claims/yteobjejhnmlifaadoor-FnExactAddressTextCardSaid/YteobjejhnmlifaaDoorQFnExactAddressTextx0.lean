-- MADE BY PROGRAM (qprint.py): walks of the functions that the law FnExactAddressText reaches. Lean checks it.
import Derived.Test.YteobjejhnmlifaaDoorProg
import Derived.Below
import Derived.Deep.Draws
import Derived.Deep.AppendLies
import Derived.Maps.AppendAt
import Derived.OwnWalk
import Derived.Laws.BytesArg
import Derived.Laws.MakeOwn
import Derived.Laws.OwnMore
import Derived.Deep.OwnRows
import Derived.Tactics
import Derived.Lib.ConvBytes
import Derived.Laws.Slices
import Derived.WalkKit
import Derived.KernelRfl
import Derived.RowKit3
import Derived.Deep.LoopGhost
import Derived.Deep.QuietTactic
import Derived.BigQuiet
import Derived.WideLaws
import Derived.Deep.DeepCutAuto
import Derived.Deep.CutBlock
import Derived.Deep.RegionHeld3
import Derived.Laws.Rows
import Derived.Lib.AppendStr
import Derived.ArgAppend
import Derived.Laws.IdiomCopy
import Derived.OrdersHeld
import Derived.Laws.BitsLemmas
import Derived.RowKit
import Derived.Test.YteobjejhnmlifaaDoorWWords
import Derived.Test.YteobjejhnmlifaaDoorWLast
import Derived.Test.YteobjejhnmlifaaDoorWTab
import Derived.Test.YteobjejhnmlifaaDoorWFour
import Derived.Test.YteobjejhnmlifaaDoorWQPut
import Derived.Test.YteobjejhnmlifaaDoorWApart
import Derived.Test.YteobjejhnmlifaaDoorWArr
import Derived.Test.YteobjejhnmlifaaDoorWZeros
import Derived.Test.YteobjejhnmlifaaDoorWFoot
import Derived.Test.YteobjejhnmlifaaDoorWKept
import Derived.Test.YteobjejhnmlifaaDoorWShare
import Derived.Test.YteobjejhnmlifaaDoorWN
import Derived.Test.YteobjejhnmlifaaDoorWFootNe
import Derived.Test.YteobjejhnmlifaaDoorWAt
import Derived.Test.YteobjejhnmlifaaDoorWEqStruct
import Derived.Test.YteobjejhnmlifaaDoorWRepsOne
import Derived.Test.YteobjejhnmlifaaDoorWInv
import Derived.Test.YteobjejhnmlifaaDoorWInvWords
import Derived.Test.YteobjejhnmlifaaDoorWGuard
import Derived.Test.YteobjejhnmlifaaDoorWNEv
import Derived.Test.YteobjejhnmlifaaDoorWMore
namespace Go.Proofs.YteobjejhnmlifaaDoor.QFnExactAddressText
open Go.RowKit Go.Proofs.YteobjejhnmlifaaDoorW.PrintWords Go.Proofs.YteobjejhnmlifaaDoorW.PrintLast Go.Proofs.YteobjejhnmlifaaDoorW.PrintMore
attribute [local go_sem] max2_int min2_int max_two min_two max_three min_three max_four min_four   -- for this text's walks alone
set_option linter.unusedVariables false
set_option linter.unusedSimpArgs false



def errW : Option Int → Value
  | none => .nilIface
  | some c => .iface 0 (.int .i64 c)
theorem errW_none : errW none = .nilIface := rfl
theorem errW_some (c : Int) : errW (some c) = .iface 0 (.int .i64 c) := rfl

theorem info2 : (Tryd.prog.info? 2).map (fun i => (i.zero, i.size, i.bytes)) = some (some (.int .i64 0), 1, 8) := by kernel_rfl
theorem info5 : (Tryd.prog.info? 5).map (fun i => (i.zero, i.size, i.bytes)) = some (some (.int .u8 0), 1, 1) := by kernel_rfl
-- the values' own types

end Go.Proofs.YteobjejhnmlifaaDoor.QFnExactAddressText
