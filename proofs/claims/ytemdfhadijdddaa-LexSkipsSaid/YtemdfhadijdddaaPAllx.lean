-- Written by a program of this work (wip/tools/gprint.py).
import Derived.Test.YtemdfhadijdddaaPAllx0
import Derived.Test.YtemdfhadijdddaaPAllx1
import Derived.Test.YtemdfhadijdddaaPAllx2
import Derived.Test.YtemdfhadijdddaaPAllx3
import Derived.Test.YtemdfhadijdddaaPAllx4
import Derived.Test.YtemdfhadijdddaaPAllx5
import Derived.Test.YtemdfhadijdddaaPAllx6
import Derived.Test.YtemdfhadijdddaaPAllx7
namespace Go.Proofs.Ytemdfhadijdddaa.PAll
open Go.RowKit Go.Proofs.YtemdfhadijdddaaW.PrintWords Go.Proofs.YtemdfhadijdddaaW.PrintLast Go.Proofs.YtemdfhadijdddaaW.PrintMore
attribute [local go_sem] max2_int min2_int max_two min_two max_three min_three max_four min_four   -- for this text's walks alone
set_option linter.unusedVariables false
set_option linter.unusedSimpArgs false

end Go.Proofs.Ytemdfhadijdddaa.PAll
