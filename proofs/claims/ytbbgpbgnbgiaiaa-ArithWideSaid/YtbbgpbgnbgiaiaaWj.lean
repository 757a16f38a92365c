/- ArithWide, of what came in. -/
import Derived.Test.YtbbgpbgnbgiaiaaWi
import Derived.Test.YtbbgpbgnbgiaiaaEvLg
namespace Go.Proofs.Ytbbgpbgnbgiaiaa.EvA
set_option linter.unusedVariables false
theorem wf64 {n : Int} (h : (Lit.int .i64 n).wf = true) : In64 n := by
  simp only [Lit.wf, Bool.and_eq_true, decide_eq_true_eq] at h
  exact h
theorem ArithWide_true (a b : Int) (w0 : (Lit.int .i64 a).wf = true) (w1 : (Lit.int .i64 b).wf = true) : ∃ n, (aeval sW ftab n 6 [.int .i64 a, .int .i64 b] h0).map (·.1) = some (.bool true) := ev_true (wide_law (wf64 w0) (wf64 w1))
end Go.Proofs.Ytbbgpbgnbgiaiaa.EvA
