-- Written by wip/pr.py, a program of this session, that runs the kit's printer with contracts of our own put in. Lean checks it.
import Derived.Test.YtdfjpbdfafpfgaaGreatDoorProg
import Derived.Below
import Derived.Deep.Draws
import Derived.Deep.AppendLies
import Derived.Maps.AppendAt
import Derived.OwnWalk
import Derived.Laws.BytesArg
import Derived.Laws.MakeOwn
import Derived.Laws.OwnMore
import Derived.Deep.OwnRows
import Derived.Tactics
import Derived.Lib.ConvBytes
import Derived.Laws.Slices
import Derived.WalkKit
import Derived.KernelRfl
import Derived.RowKit3
import Derived.Deep.LoopGhost
import Derived.Deep.QuietTactic
import Derived.BigQuiet
import Derived.WideLaws
import Derived.Deep.DeepCutAuto
import Derived.Deep.CutBlock
import Derived.Deep.RegionHeld3
import Derived.Laws.Rows
import Derived.Lib.AppendStr
import Derived.ArgAppend
import Derived.Laws.IdiomCopy
import Derived.OrdersHeld
import Derived.Laws.BitsLemmas
import Derived.RowKit
import Derived.Test.YtdfjpbdfafpfgaaGreatDoorGlA
import Derived.Test.YtdfjpbdfafpfgaaGreatDoorWWords
import Derived.Test.YtdfjpbdfafpfgaaGreatDoorWLast
import Derived.Test.YtdfjpbdfafpfgaaGreatDoorWTab
import Derived.Test.YtdfjpbdfafpfgaaGreatDoorWFour
import Derived.Test.YtdfjpbdfafpfgaaGreatDoorWQPut
import Derived.Test.YtdfjpbdfafpfgaaGreatDoorWApart
import Derived.Test.YtdfjpbdfafpfgaaGreatDoorWArr
import Derived.Test.YtdfjpbdfafpfgaaGreatDoorWZeros
import Derived.Test.YtdfjpbdfafpfgaaGreatDoorWFoot
import Derived.Test.YtdfjpbdfafpfgaaGreatDoorWKept
import Derived.Test.YtdfjpbdfafpfgaaGreatDoorWShare
import Derived.Test.YtdfjpbdfafpfgaaGreatDoorWN
import Derived.Test.YtdfjpbdfafpfgaaGreatDoorWFootNe
import Derived.Test.YtdfjpbdfafpfgaaGreatDoorWAt
import Derived.Test.YtdfjpbdfafpfgaaGreatDoorWEqStruct
import Derived.Test.YtdfjpbdfafpfgaaGreatDoorWRepsOne
import Derived.Test.YtdfjpbdfafpfgaaGreatDoorWInv
import Derived.Test.YtdfjpbdfafpfgaaGreatDoorWInvWords
import Derived.Test.YtdfjpbdfafpfgaaGreatDoorWGuard
import Derived.Test.YtdfjpbdfafpfgaaGreatDoorWNEv
import Derived.Test.YtdfjpbdfafpfgaaGreatDoorWMore
namespace Go.Proofs.YtdfjpbdfafpfgaaGreatDoor.PX
open Go.RowKit Go.Proofs.YtdfjpbdfafpfgaaGreatDoorW.PrintWords Go.Proofs.YtdfjpbdfafpfgaaGreatDoorW.PrintLast Go.Proofs.YtdfjpbdfafpfgaaGreatDoorW.PrintMore
attribute [local go_sem] max2_int min2_int max_two min_two max_three min_three max_four min_four   -- for this text's walks alone
set_option linter.unusedVariables false
set_option linter.unusedSimpArgs false



def errW : Option Int → Value
  | none => .nilIface
  | some c => .iface 0 (.int .i64 c)
theorem errW_none : errW none = .nilIface := rfl
theorem errW_some (c : Int) : errW (some c) = .iface 0 (.int .i64 c) := rfl

theorem info3 : (Tryz.prog.info? 3).map (fun i => (i.zero, i.size, i.bytes)) = some (some (.int .i64 0), 1, 8) := by kernel_rfl
theorem info5 : (Tryz.prog.info? 5).map (fun i => (i.zero, i.size, i.bytes)) = some (some (.int .u8 0), 1, 1) := by kernel_rfl
-- the values' own types

end Go.Proofs.YtdfjpbdfafpfgaaGreatDoor.PX
