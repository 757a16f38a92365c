/- WorldOrder, of what came in. -/
import Derived.Test.YtjegfogfeeedhaaWf
import Derived.Test.YtjegfogfeeedhaaEvLg
namespace Go.Proofs.Ytjegfogfeeedhaa.EvA
set_option linter.unusedVariables false
theorem WorldOrder_true (a0 a1 : AV) (w0 : Sh Try.prog 9 22 [a0]) (w1 : Sh Try.prog 9 23 [a1]) : ∃ n, (aeval sW ftab n 3 [a0, a1] h0).map (·.1) = some (.bool true) := by
  obtain ⟨v, C, e1, hc, _⟩ := sh_ints (d := 7) Try.underlying22 Try.underlying3 (by kernel_rfl) w0
  obtain ⟨u, T, e2, ht, _⟩ := sh_strs (d := 7) Try.underlying23 Try.underlying9 (by kernel_rfl) w1
  obtain rfl : a0 = v := by simpa using e1
  obtain rfl : a1 = u := by simpa using e2
  exact ev_true (order_ev hc ht)
end Go.Proofs.Ytjegfogfeeedhaa.EvA
