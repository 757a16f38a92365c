-- Written by a program of this work (wip/tools/gprint.py).
import Derived.Test.YtlebdbbngliiaaaProg
import Derived.Below
import Derived.Deep.Draws
import Derived.Deep.AppendLies
import Derived.Maps.AppendAt
import Derived.OwnWalk
import Derived.Laws.BytesArg
import Derived.Laws.MakeOwn
import Derived.Laws.OwnMore
import Derived.Deep.OwnRows
import Derived.Tactics
import Derived.Lib.ConvBytes
import Derived.Laws.Slices
import Derived.WalkKit
import Derived.KernelRfl
import Derived.RowKit3
import Derived.Deep.LoopGhost
import Derived.Deep.QuietTactic
import Derived.BigQuiet
import Derived.WideLaws
import Derived.Deep.DeepCutAuto
import Derived.Deep.CutBlock
import Derived.Deep.RegionHeld3
import Derived.Laws.Rows
import Derived.Lib.AppendStr
import Derived.ArgAppend
import Derived.Laws.IdiomCopy
import Derived.OrdersHeld
import Derived.Laws.BitsLemmas
import Derived.RowKit
import Derived.Lib.Strings
import Derived.Lib.Slices
import Derived.Lib.Walk
import Derived.Lib.Bytealg
import Derived.Test.YtlebdbbngliiaaaWWords
import Derived.Test.YtlebdbbngliiaaaWLast
import Derived.Test.YtlebdbbngliiaaaWTab
import Derived.Test.YtlebdbbngliiaaaWFour
import Derived.Test.YtlebdbbngliiaaaWQPut
import Derived.Test.YtlebdbbngliiaaaWApart
import Derived.Test.YtlebdbbngliiaaaWArr
import Derived.Test.YtlebdbbngliiaaaWZeros
import Derived.Test.YtlebdbbngliiaaaWFoot
import Derived.Test.YtlebdbbngliiaaaWKept
import Derived.Test.YtlebdbbngliiaaaWShare
import Derived.Test.YtlebdbbngliiaaaWN
import Derived.Test.YtlebdbbngliiaaaWFootNe
import Derived.Test.YtlebdbbngliiaaaWAt
import Derived.Test.YtlebdbbngliiaaaWEqStruct
import Derived.Test.YtlebdbbngliiaaaWRepsOne
import Derived.Test.YtlebdbbngliiaaaWInv
import Derived.Test.YtlebdbbngliiaaaWInvWords
import Derived.Test.YtlebdbbngliiaaaWGuard
import Derived.Test.YtlebdbbngliiaaaWNEv
import Derived.Test.YtlebdbbngliiaaaWMore
namespace Go.Proofs.Ytlebdbbngliiaaa.PAll
open Go.RowKit Go.Proofs.YtlebdbbngliiaaaW.PrintWords Go.Proofs.YtlebdbbngliiaaaW.PrintLast Go.Proofs.YtlebdbbngliiaaaW.PrintMore
attribute [local go_sem] max2_int min2_int max_two min_two max_three min_three max_four min_four   -- for this text's walks alone
set_option linter.unusedVariables false
set_option linter.unusedSimpArgs false



def errW : Option Int → Value
  | none => .nilIface
  | some c => .iface 0 (.int .i64 c)
theorem errW_none : errW none = .nilIface := rfl
theorem errW_some (c : Int) : errW (some c) = .iface 0 (.int .i64 c) := rfl

-- the values' own types

end Go.Proofs.Ytlebdbbngliiaaa.PAll
