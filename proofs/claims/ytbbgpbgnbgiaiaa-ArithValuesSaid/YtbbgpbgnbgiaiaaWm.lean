/- ArithValues, of what came in. -/
import Derived.Test.YtbbgpbgnbgiaiaaWl
import Derived.Test.YtbbgpbgnbgiaiaaEvLg
namespace Go.Proofs.Ytbbgpbgnbgiaiaa.EvA
set_option linter.unusedVariables false
theorem wf64v {n : Int} (h : (Lit.int .i64 n).wf = true) : In64 n := by
  simp only [Lit.wf, Bool.and_eq_true, decide_eq_true_eq] at h
  exact h
theorem ArithValues_true (a : Int) (s : ByteArray) (w0 : (Lit.int .i64 a).wf = true) (w1 : s.size ≤ 140737488351232) : ∃ n, (aeval sW ftab n 4 [.int .i64 a, .str s] h0).map (·.1) = some (.bool true) := ev_true (values_law (wf64v w0))
end Go.Proofs.Ytbbgpbgnbgiaiaa.EvA
