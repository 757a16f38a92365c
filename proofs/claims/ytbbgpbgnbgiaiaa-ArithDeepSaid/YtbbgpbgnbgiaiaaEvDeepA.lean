/- The law on what stands deep one in the other: depths 0 to 9. Printed by a program of this work. -/
import Derived.Test.YtbbgpbgnbgiaiaaEvDeep
namespace Go.Proofs.Ytbbgpbgnbgiaiaa.EvA
set_option linter.unusedVariables false
theorem deep0_false (n : Int) : Deep n 0 false := by unfold Deep; kernel_rfl
theorem deep0_true (n : Int) : Deep n 0 true := by unfold Deep; kernel_rfl
theorem deep1_false (n : Int) : Deep n 1 false := by unfold Deep; kernel_rfl
theorem deep1_true (n : Int) : Deep n 1 true := by unfold Deep; kernel_rfl
theorem deep2_false (n : Int) : Deep n 2 false := by unfold Deep; kernel_rfl
theorem deep2_true (n : Int) : Deep n 2 true := by unfold Deep; kernel_rfl
theorem deep3_false (n : Int) : Deep n 3 false := by unfold Deep; kernel_rfl
theorem deep3_true (n : Int) : Deep n 3 true := by unfold Deep; kernel_rfl
theorem deep4_false (n : Int) : Deep n 4 false := by unfold Deep; kernel_rfl
theorem deep4_true (n : Int) : Deep n 4 true := by unfold Deep; kernel_rfl
theorem deep5_false (n : Int) : Deep n 5 false := by unfold Deep; kernel_rfl
theorem deep5_true (n : Int) : Deep n 5 true := by unfold Deep; kernel_rfl
theorem deep6_false (n : Int) : Deep n 6 false := by unfold Deep; kernel_rfl
theorem deep6_true (n : Int) : Deep n 6 true := by unfold Deep; kernel_rfl
theorem deep7_false (n : Int) : Deep n 7 false := by unfold Deep; kernel_rfl
theorem deep7_true (n : Int) : Deep n 7 true := by unfold Deep; kernel_rfl
theorem deep8_false (n : Int) : Deep n 8 false := by unfold Deep; kernel_rfl
theorem deep8_true (n : Int) : Deep n 8 true := by unfold Deep; kernel_rfl
theorem deep9_false (n : Int) : Deep n 9 false := by unfold Deep; kernel_rfl
theorem deep9_true (n : Int) : Deep n 9 true := by unfold Deep; kernel_rfl
theorem deepq0 (n : Int) (k : Nat) (h1 : 0 ≤ k) (h2 : k < 10) (b : Bool) : Deep n (k : Int) b := by
  have : k = 0 ∨ k = 1 ∨ k = 2 ∨ k = 3 ∨ k = 4 ∨ k = 5 ∨ k = 6 ∨ k = 7 ∨ k = 8 ∨ k = 9 := by omega
  rcases this with rfl | rfl | rfl | rfl | rfl | rfl | rfl | rfl | rfl | rfl <;> cases b
  · exact deep0_false n
  · exact deep0_true n
  · exact deep1_false n
  · exact deep1_true n
  · exact deep2_false n
  · exact deep2_true n
  · exact deep3_false n
  · exact deep3_true n
  · exact deep4_false n
  · exact deep4_true n
  · exact deep5_false n
  · exact deep5_true n
  · exact deep6_false n
  · exact deep6_true n
  · exact deep7_false n
  · exact deep7_true n
  · exact deep8_false n
  · exact deep8_true n
  · exact deep9_false n
  · exact deep9_true n
end Go.Proofs.Ytbbgpbgnbgiaiaa.EvA
