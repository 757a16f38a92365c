/- Walks of layer 8: closed calls. -/
import Derived.Test.YtbbgpbgnbgiaiaaEvLh
import Derived.Test.YtbbgpbgnbgiaiaaEvTb
import Derived.KernelRfl
namespace Go.Proofs.Ytbbgpbgnbgiaiaa.EvA
set_option linter.unusedVariables false
theorem awake0 : (aeval noS ftab 60 13 [] h0).map (·.1) = some (.bool true) := by kernel_rfl
/-- A step: its kind, its number, its name. -/
structure Op where
  kind : Int
  n : Int
  name : ByteArray
def Op.cells (o : Op) : List AV := [.int .i64 o.kind, .int .i64 o.n, .str o.name]
def rowO (l : List Op) : AV := .row (l.flatMap Op.cells) l.length ⟨0, 0, 0, 3⟩
end Go.Proofs.Ytbbgpbgnbgiaiaa.EvA
