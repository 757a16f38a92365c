-- Written by a program of this work (wip/tools/gprint.py).
import Derived.Test.YthdndghhdiadiaaDoorProg
import Derived.Below
import Derived.Deep.Draws
import Derived.Deep.AppendLies
import Derived.Maps.AppendAt
import Derived.OwnWalk
import Derived.Laws.BytesArg
import Derived.Laws.MakeOwn
import Derived.Laws.OwnMore
import Derived.Deep.OwnRows
import Derived.Tactics
import Derived.Lib.ConvBytes
import Derived.Laws.Slices
import Derived.WalkKit
import Derived.KernelRfl
import Derived.RowKit3
import Derived.Deep.LoopGhost
import Derived.Deep.QuietTactic
import Derived.BigQuiet
import Derived.WideLaws
import Derived.Deep.DeepCutAuto
import Derived.Deep.CutBlock
import Derived.Deep.RegionHeld3
import Derived.Laws.Rows
import Derived.Lib.AppendStr
import Derived.ArgAppend
import Derived.Laws.IdiomCopy
import Derived.OrdersHeld
import Derived.Laws.BitsLemmas
import Derived.RowKit
import Derived.Lib.Strings
import Derived.Lib.Slices
import Derived.Lib.Walk
import Derived.Lib.Bytealg
import Derived.Lib.SplitLaws
import Derived.Lib.AppendIntMem
import Derived.Test.YthdndghhdiadiaaDoorShelf
import Derived.Test.YthdndghhdiadiaaDoorTab
import Derived.Test.YthdndghhdiadiaaDoorWWords
import Derived.Test.YthdndghhdiadiaaDoorWLast
import Derived.Test.YthdndghhdiadiaaDoorWTab
import Derived.Test.YthdndghhdiadiaaDoorWFour
import Derived.Test.YthdndghhdiadiaaDoorWQPut
import Derived.Test.YthdndghhdiadiaaDoorWApart
import Derived.Test.YthdndghhdiadiaaDoorWArr
import Derived.Test.YthdndghhdiadiaaDoorWZeros
import Derived.Test.YthdndghhdiadiaaDoorWFoot
import Derived.Test.YthdndghhdiadiaaDoorWKept
import Derived.Test.YthdndghhdiadiaaDoorWShare
import Derived.Test.YthdndghhdiadiaaDoorWN
import Derived.Test.YthdndghhdiadiaaDoorWFootNe
import Derived.Test.YthdndghhdiadiaaDoorWAt
import Derived.Test.YthdndghhdiadiaaDoorWEqStruct
import Derived.Test.YthdndghhdiadiaaDoorWRepsOne
import Derived.Test.YthdndghhdiadiaaDoorWInv
import Derived.Test.YthdndghhdiadiaaDoorWInvWords
import Derived.Test.YthdndghhdiadiaaDoorWGuard
import Derived.Test.YthdndghhdiadiaaDoorWNEv
import Derived.Test.YthdndghhdiadiaaDoorWMore
namespace Go.Proofs.YthdndghhdiadiaaDoor.PAll
open Go.RowKit Go.Proofs.YthdndghhdiadiaaDoorW.PrintWords Go.Proofs.YthdndghhdiadiaaDoorW.PrintLast Go.Proofs.YthdndghhdiadiaaDoorW.PrintMore
attribute [local go_sem] max2_int min2_int max_two min_two max_three min_three max_four min_four   -- for this text's walks alone
set_option linter.unusedVariables false
set_option linter.unusedSimpArgs false



def errW : Option Int → Value
  | none => .nilIface
  | some c => .iface 0 (.int .i64 c)
theorem errW_none : errW none = .nilIface := rfl
theorem errW_some (c : Int) : errW (some c) = .iface 0 (.int .i64 c) := rfl

theorem info5 : (Tryd.prog.info? 5).map (fun i => (i.zero, i.size, i.bytes)) = some (some (.int .u8 0), 1, 1) := by kernel_rfl
theorem info9 : (Tryd.prog.info? 9).map (fun i => (i.zero, i.size, i.bytes)) = some (some (.string ⟨#[]⟩), 1, 16) := by kernel_rfl
-- the values' own types

end Go.Proofs.YthdndghhdiadiaaDoor.PAll
