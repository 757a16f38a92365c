-- Written by a program of this work (wip/tools/gprint.py).
import Derived.Test.YtbembhfilbholaaProg
import Derived.Below
import Derived.Deep.Draws
import Derived.Deep.AppendLies
import Derived.Maps.AppendAt
import Derived.OwnWalk
import Derived.Laws.BytesArg
import Derived.Laws.MakeOwn
import Derived.Laws.OwnMore
import Derived.Deep.OwnRows
import Derived.Tactics
import Derived.Lib.ConvBytes
import Derived.Laws.Slices
import Derived.WalkKit
import Derived.KernelRfl
import Derived.RowKit3
import Derived.Deep.LoopGhost
import Derived.Deep.QuietTactic
import Derived.BigQuiet
import Derived.WideLaws
import Derived.Deep.DeepCutAuto
import Derived.Deep.CutBlock
import Derived.Deep.RegionHeld3
import Derived.Laws.Rows
import Derived.Lib.AppendStr
import Derived.ArgAppend
import Derived.Laws.IdiomCopy
import Derived.OrdersHeld
import Derived.Laws.BitsLemmas
import Derived.RowKit
import Derived.Lib.Strings
import Derived.Lib.Slices
import Derived.Lib.Walk
import Derived.Lib.Bytealg
import Derived.Test.YtbembhfilbholaaWWords
import Derived.Test.YtbembhfilbholaaWLast
import Derived.Test.YtbembhfilbholaaWTab
import Derived.Test.YtbembhfilbholaaWFour
import Derived.Test.YtbembhfilbholaaWQPut
import Derived.Test.YtbembhfilbholaaWApart
import Derived.Test.YtbembhfilbholaaWArr
import Derived.Test.YtbembhfilbholaaWZeros
import Derived.Test.YtbembhfilbholaaWFoot
import Derived.Test.YtbembhfilbholaaWKept
import Derived.Test.YtbembhfilbholaaWShare
import Derived.Test.YtbembhfilbholaaWN
import Derived.Test.YtbembhfilbholaaWFootNe
import Derived.Test.YtbembhfilbholaaWAt
import Derived.Test.YtbembhfilbholaaWEqStruct
import Derived.Test.YtbembhfilbholaaWRepsOne
import Derived.Test.YtbembhfilbholaaWInv
import Derived.Test.YtbembhfilbholaaWInvWords
import Derived.Test.YtbembhfilbholaaWGuard
import Derived.Test.YtbembhfilbholaaWNEv
import Derived.Test.YtbembhfilbholaaWMore
namespace Go.Proofs.Ytbembhfilbholaa.PAll
open Go.RowKit Go.Proofs.YtbembhfilbholaaW.PrintWords Go.Proofs.YtbembhfilbholaaW.PrintLast Go.Proofs.YtbembhfilbholaaW.PrintMore
attribute [local go_sem] max2_int min2_int max_two min_two max_three min_three max_four min_four   -- for this text's walks alone
set_option linter.unusedVariables false
set_option linter.unusedSimpArgs false



def errW : Option Int → Value
  | none => .nilIface
  | some c => .iface 0 (.int .i64 c)
theorem errW_none : errW none = .nilIface := rfl
theorem errW_some (c : Int) : errW (some c) = .iface 0 (.int .i64 c) := rfl

theorem info9 : (Try.prog.info? 9).map (fun i => (i.zero, i.size, i.bytes)) = some (some (.string ⟨#[]⟩), 1, 16) := by kernel_rfl
-- the values' own types

end Go.Proofs.Ytbembhfilbholaa.PAll
