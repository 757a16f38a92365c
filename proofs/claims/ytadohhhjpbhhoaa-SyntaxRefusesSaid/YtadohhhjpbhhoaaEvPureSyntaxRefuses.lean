/- SyntaxRefuses: what is no script, or is refused, is told by its own error at its own place: true for each number. -/
import Derived.Test.YtadohhhjpbhhoaaEvRefA
import Derived.Test.YtadohhhjpbhhoaaEvBits
namespace Go.Proofs.Ytadohhhjpbhhoaa.EvA
set_option linter.unusedVariables false
theorem SyntaxRefuses_true (n : Int) (w : (Lit.int .i64 n).wf = true) : ∃ m, (aeval sQ ftab m 9 [.int .i64 n] h0).map (·.1) = some (.bool true) := by
  refine ⟨200, quick_true ?_⟩
  have hq : Int.tmod (Go.bits .and .i64 n 255) 33 = (((n % 256 % 33).toNat : Nat) : Int) := by
    rw [Bits.bits_and255]
    rw [Int.tmod_eq_emod_of_nonneg (by omega)]
    omega
  exact ref_all n _ (by omega) hq
end Go.Proofs.Ytadohhhjpbhhoaa.EvA
