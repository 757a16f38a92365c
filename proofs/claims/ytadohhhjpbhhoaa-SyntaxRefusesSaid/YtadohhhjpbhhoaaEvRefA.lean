/- SyntaxRefuses: each of the scripts by its number. -/
import Derived.Test.YtadohhhjpbhhoaaEvRef
namespace Go.Proofs.Ytadohhhjpbhhoaa.EvA
set_option linter.unusedVariables false
set_option maxRecDepth 100000
theorem ref_all (n : Int) (k : Nat) (hk : k < 33) (hq : Int.tmod (Go.bits .and .i64 n 255) 33 = (k : Int)) : (aevalF sQ qtab 200 9 [.int .i64 n] h0).map (·.1) = some (.bool true) := by
  rw [aevalF_succ (ff := ff9) (e := s0 (.int .i64 n) bl8) rfl rfl rfl 199 h0]
  have hb : ff9.body = fb9 := by simp only [ff9]
  rw [hb]
  unfold fb9
  rw [fSeq_regP (by kernel_rfl), fSeq_regP (by kernel_rfl), fSeq_doP (by kernel_rfl) (by kernel_rfl), fSeq_doP (by kernel_rfl) (by kernel_rfl), fSeq_doP (by kernel_rfl) (by kernel_rfl), fSeq_doP (by kernel_rfl) (by kernel_rfl), fSeq_doP (by kernel_rfl) (by kernel_rfl)]
  rw [fSeq_doV (v := .int .i64 (Int.tmod (Go.bits .and .i64 n 255) 33)) (by kernel_rfl) (by kernel_rfl) (by kernel_rfl)]
  rw [hq]
  have hc : k = 0 ∨ k = 1 ∨ k = 2 ∨ k = 3 ∨ k = 4 ∨ k = 5 ∨ k = 6 ∨ k = 7 ∨ k = 8 ∨ k = 9 ∨ k = 10 ∨ k = 11 ∨ k = 12 ∨ k = 13 ∨ k = 14 ∨ k = 15 ∨ k = 16 ∨ k = 17 ∨ k = 18 ∨ k = 19 ∨ k = 20 ∨ k = 21 ∨ k = 22 ∨ k = 23 ∨ k = 24 ∨ k = 25 ∨ k = 26 ∨ k = 27 ∨ k = 28 ∨ k = 29 ∨ k = 30 ∨ k = 31 ∨ k = 32 := by omega
  rcases hc with rfl | rfl | rfl | rfl | rfl | rfl | rfl | rfl | rfl | rfl | rfl | rfl | rfl | rfl | rfl | rfl | rfl | rfl | rfl | rfl | rfl | rfl | rfl | rfl | rfl | rfl | rfl | rfl | rfl | rfl | rfl | rfl | rfl <;> (show Option.map _ _ = _; kernel_rfl)
end Go.Proofs.Ytadohhhjpbhhoaa.EvA
