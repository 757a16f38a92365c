-- Written by a program of this work (wip/tools/gprint.py).
import Derived.Test.YtbembhfilbholaaPAllx0
import Derived.Test.YtbembhfilbholaaPAllx1
import Derived.Test.YtbembhfilbholaaPAllx2
import Derived.Test.YtbembhfilbholaaPAllx3
import Derived.Test.YtbembhfilbholaaPAllx4
import Derived.Test.YtbembhfilbholaaPAllx5
import Derived.Test.YtbembhfilbholaaPAllx6
import Derived.Test.YtbembhfilbholaaPAllx7
import Derived.Test.YtbembhfilbholaaPAllx8
namespace Go.Proofs.Ytbembhfilbholaa.PAll
open Go.RowKit Go.Proofs.YtbembhfilbholaaW.PrintWords Go.Proofs.YtbembhfilbholaaW.PrintLast Go.Proofs.YtbembhfilbholaaW.PrintMore
attribute [local go_sem] max2_int min2_int max_two min_two max_three min_three max_four min_four   -- for this text's walks alone
set_option linter.unusedVariables false
set_option linter.unusedSimpArgs false

end Go.Proofs.Ytbembhfilbholaa.PAll
