/- ArithDeep: as many parentheses and signs may stand one in the other as the bound says, and no more: true for each number and both kinds. -/
import Derived.Test.YtbbgpbgnbgiaiaaEvDeepA
import Derived.Test.YtbbgpbgnbgiaiaaEvDeepB
import Derived.Test.YtbbgpbgnbgiaiaaEvDeepC
import Derived.Test.YtbbgpbgnbgiaiaaEvDeepD
import Derived.Test.YtbbgpbgnbgiaiaaEvBits
namespace Go.Proofs.Ytbbgpbgnbgiaiaa.EvA
set_option linter.unusedVariables false
theorem deep_all (n : Int) (k : Nat) (hk : k < 40) (b : Bool) : Deep n (k : Int) b := by
  by_cases h1 : k < 10
  · exact deepq0 n k (by omega) h1 b
  · by_cases h2 : k < 20
    · exact deepq1 n k (by omega) h2 b
    · by_cases h3 : k < 30
      · exact deepq2 n k (by omega) h3 b
      · exact deepq3 n k (by omega) hk b
theorem ArithDeep_true (n : Int) (b : Bool) (w : (Lit.int .i64 n).wf = true) : ∃ m, (aeval sAwake ftab m 5 [.int .i64 n, .bool b] h0).map (·.1) = some (.bool true) := by
  refine ⟨200, quick_true ?_⟩
  rw [deep_step n b 199]
  have hq : Int.tmod (Go.bits .and .i64 n 255) 40 = (((n % 256 % 40).toNat : Nat) : Int) := by
    rw [Bits.bits_and255]
    rw [Int.tmod_eq_emod_of_nonneg (by omega)]
    omega
  rw [hq]
  exact deep_all n _ (by omega) b
end Go.Proofs.Ytbbgpbgnbgiaiaa.EvA
