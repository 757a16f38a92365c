-- Written by a program of this work (wip/tools/gprint.py).
import Derived.Test.YtlebdbbngliiaaaPAllx0
import Derived.Test.YtlebdbbngliiaaaPAllx1
import Derived.Test.YtlebdbbngliiaaaPAllx2
import Derived.Test.YtlebdbbngliiaaaPAllx3
namespace Go.Proofs.Ytlebdbbngliiaaa.PAll
open Go.RowKit Go.Proofs.YtlebdbbngliiaaaW.PrintWords Go.Proofs.YtlebdbbngliiaaaW.PrintLast Go.Proofs.YtlebdbbngliiaaaW.PrintMore
attribute [local go_sem] max2_int min2_int max_two min_two max_three min_three max_four min_four   -- for this text's walks alone
set_option linter.unusedVariables false
set_option linter.unusedSimpArgs false

end Go.Proofs.Ytlebdbbngliiaaa.PAll
