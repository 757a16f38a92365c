/- EnvArgs, of what came in. -/
import Derived.Test.YtjpmpnmjglbdiaaWf
import Derived.Test.YtjpmpnmjglbdiaaEvLg
namespace Go.Proofs.Ytjpmpnmjglbdiaa.EvA
set_option linter.unusedVariables false
theorem EnvArgs_true (a0 : AV) (n : Int) (w0 : Sh Try.prog 9 22 [a0]) (w1 : (Lit.int .i64 n).wf = true) : ∃ k, (aeval sW ftab k 3 [a0, .int .i64 n] h0).map (·.1) = some (.bool true) := by
  obtain ⟨v, T, e1, ht, _⟩ := sh_strs (d := 7) Try.underlying22 Try.underlying9 (by kernel_rfl) w0
  obtain rfl : a0 = v := by simpa using e1
  exact ev_true (args_law ht)
end Go.Proofs.Ytjpmpnmjglbdiaa.EvA
