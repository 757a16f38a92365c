-- Written by a program of this work (wip/tools/gprint.py).
import Derived.Test.YthdndghhdiadiaaDoorPAllx0
import Derived.Test.YthdndghhdiadiaaDoorPAllx1
import Derived.Test.YthdndghhdiadiaaDoorPAllx2
import Derived.Test.YthdndghhdiadiaaDoorPAllx3
import Derived.Test.YthdndghhdiadiaaDoorPAllx4
import Derived.Test.YthdndghhdiadiaaDoorPAllx5
namespace Go.Proofs.YthdndghhdiadiaaDoor.PAll
open Go.RowKit Go.Proofs.YthdndghhdiadiaaDoorW.PrintWords Go.Proofs.YthdndghhdiadiaaDoorW.PrintLast Go.Proofs.YthdndghhdiadiaaDoorW.PrintMore
attribute [local go_sem] max2_int min2_int max_two min_two max_three min_three max_four min_four   -- for this text's walks alone
set_option linter.unusedVariables false
set_option linter.unusedSimpArgs false

end Go.Proofs.YthdndghhdiadiaaDoor.PAll
