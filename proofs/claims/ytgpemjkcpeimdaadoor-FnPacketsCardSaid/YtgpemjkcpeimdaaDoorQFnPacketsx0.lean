-- MADE BY PROGRAM (qprint.py): walks of the functions that the law FnPackets reaches. Lean checks it.
import Derived.Test.YtgpemjkcpeimdaaDoorProg
import Derived.Below
import Derived.Deep.Draws
import Derived.Deep.AppendLies
import Derived.Maps.AppendAt
import Derived.OwnWalk
import Derived.Laws.BytesArg
import Derived.Laws.MakeOwn
import Derived.Laws.OwnMore
import Derived.Deep.OwnRows
import Derived.Tactics
import Derived.Lib.ConvBytes
import Derived.Laws.Slices
import Derived.WalkKit
import Derived.KernelRfl
import Derived.RowKit3
import Derived.Deep.LoopGhost
import Derived.Deep.QuietTactic
import Derived.BigQuiet
import Derived.WideLaws
import Derived.Deep.DeepCutAuto
import Derived.Deep.CutBlock
import Derived.Deep.RegionHeld3
import Derived.Laws.Rows
import Derived.Lib.AppendStr
import Derived.ArgAppend
import Derived.Laws.IdiomCopy
import Derived.OrdersHeld
import Derived.Laws.BitsLemmas
import Derived.RowKit
import Derived.Test.YtgpemjkcpeimdaaDoorWWords
import Derived.Test.YtgpemjkcpeimdaaDoorWLast
import Derived.Test.YtgpemjkcpeimdaaDoorWTab
import Derived.Test.YtgpemjkcpeimdaaDoorWFour
import Derived.Test.YtgpemjkcpeimdaaDoorWQPut
import Derived.Test.YtgpemjkcpeimdaaDoorWApart
import Derived.Test.YtgpemjkcpeimdaaDoorWArr
import Derived.Test.YtgpemjkcpeimdaaDoorWZeros
import Derived.Test.YtgpemjkcpeimdaaDoorWFoot
import Derived.Test.YtgpemjkcpeimdaaDoorWKept
import Derived.Test.YtgpemjkcpeimdaaDoorWShare
import Derived.Test.YtgpemjkcpeimdaaDoorWN
import Derived.Test.YtgpemjkcpeimdaaDoorWFootNe
import Derived.Test.YtgpemjkcpeimdaaDoorWAt
import Derived.Test.YtgpemjkcpeimdaaDoorWEqStruct
import Derived.Test.YtgpemjkcpeimdaaDoorWRepsOne
import Derived.Test.YtgpemjkcpeimdaaDoorWInv
import Derived.Test.YtgpemjkcpeimdaaDoorWInvWords
import Derived.Test.YtgpemjkcpeimdaaDoorWGuard
import Derived.Test.YtgpemjkcpeimdaaDoorWNEv
import Derived.Test.YtgpemjkcpeimdaaDoorWMore
namespace Go.Proofs.YtgpemjkcpeimdaaDoor.QFnPackets
open Go.RowKit Go.Proofs.YtgpemjkcpeimdaaDoorW.PrintWords Go.Proofs.YtgpemjkcpeimdaaDoorW.PrintLast Go.Proofs.YtgpemjkcpeimdaaDoorW.PrintMore
attribute [local go_sem] max2_int min2_int max_two min_two max_three min_three max_four min_four   -- for this text's walks alone
set_option linter.unusedVariables false
set_option linter.unusedSimpArgs false



def errW : Option Int → Value
  | none => .nilIface
  | some c => .iface 0 (.int .i64 c)
theorem errW_none : errW none = .nilIface := rfl
theorem errW_some (c : Int) : errW (some c) = .iface 0 (.int .i64 c) := rfl

theorem info2 : (Tryd.prog.info? 2).map (fun i => (i.zero, i.size, i.bytes)) = some (some (.int .i64 0), 1, 8) := by kernel_rfl
theorem info5 : (Tryd.prog.info? 5).map (fun i => (i.zero, i.size, i.bytes)) = some (some (.int .u8 0), 1, 1) := by kernel_rfl
-- the values' own types

end Go.Proofs.YtgpemjkcpeimdaaDoor.QFnPackets
