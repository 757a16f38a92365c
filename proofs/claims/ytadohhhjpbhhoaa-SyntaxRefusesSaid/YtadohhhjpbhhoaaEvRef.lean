/- SyntaxRefuses: each of the scripts by its number. -/
import Derived.Test.YtadohhhjpbhhoaaEvSm
import Derived.KernelRfl
namespace Go.Proofs.Ytadohhhjpbhhoaa.EvA
set_option linter.unusedVariables false
noncomputable abbrev sIx : Sum := sumIdx 45
theorem sIx_ok (B : Nat → Prop) (w0 : World) : SumOk Try.prog B w0 sIx := sumIdx_ok Try.func45 (by kernel_rfl) (by kernel_rfl) (by kernel_rfl) (by kernel_rfl) B w0
theorem awakeQ : (aevalF sIx qtab 200 12 [] h0).map (·.1) = some (.bool true) := by kernel_rfl
noncomputable abbrev sQ : Sum := sumOr (sumTrue 12) sIx
theorem sQ_ok (B : Nat → Prop) (w0 : World) : SumOk Try.prog B w0 sQ := sumOr_ok (sumTrue_ok sIx_ok ftab_ok (quick_true awakeQ) B w0) (sIx_ok B w0)
end Go.Proofs.Ytadohhhjpbhhoaa.EvA
