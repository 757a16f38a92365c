/- The law on what stands deep one in the other: depths 20 to 29. Printed by a program of this work. -/
import Derived.Test.YtbbgpbgnbgiaiaaEvDeep
namespace Go.Proofs.Ytbbgpbgnbgiaiaa.EvA
set_option linter.unusedVariables false
theorem deep20_false (n : Int) : Deep n 20 false := by unfold Deep; kernel_rfl
theorem deep20_true (n : Int) : Deep n 20 true := by unfold Deep; kernel_rfl
theorem deep21_false (n : Int) : Deep n 21 false := by unfold Deep; kernel_rfl
theorem deep21_true (n : Int) : Deep n 21 true := by unfold Deep; kernel_rfl
theorem deep22_false (n : Int) : Deep n 22 false := by unfold Deep; kernel_rfl
theorem deep22_true (n : Int) : Deep n 22 true := by unfold Deep; kernel_rfl
theorem deep23_false (n : Int) : Deep n 23 false := by unfold Deep; kernel_rfl
theorem deep23_true (n : Int) : Deep n 23 true := by unfold Deep; kernel_rfl
theorem deep24_false (n : Int) : Deep n 24 false := by unfold Deep; kernel_rfl
theorem deep24_true (n : Int) : Deep n 24 true := by unfold Deep; kernel_rfl
theorem deep25_false (n : Int) : Deep n 25 false := by unfold Deep; kernel_rfl
theorem deep25_true (n : Int) : Deep n 25 true := by unfold Deep; kernel_rfl
theorem deep26_false (n : Int) : Deep n 26 false := by unfold Deep; kernel_rfl
theorem deep26_true (n : Int) : Deep n 26 true := by unfold Deep; kernel_rfl
theorem deep27_false (n : Int) : Deep n 27 false := by unfold Deep; kernel_rfl
theorem deep27_true (n : Int) : Deep n 27 true := by unfold Deep; kernel_rfl
theorem deep28_false (n : Int) : Deep n 28 false := by unfold Deep; kernel_rfl
theorem deep28_true (n : Int) : Deep n 28 true := by unfold Deep; kernel_rfl
theorem deep29_false (n : Int) : Deep n 29 false := by unfold Deep; kernel_rfl
theorem deep29_true (n : Int) : Deep n 29 true := by unfold Deep; kernel_rfl
theorem deepq2 (n : Int) (k : Nat) (h1 : 20 ≤ k) (h2 : k < 30) (b : Bool) : Deep n (k : Int) b := by
  have : k = 20 ∨ k = 21 ∨ k = 22 ∨ k = 23 ∨ k = 24 ∨ k = 25 ∨ k = 26 ∨ k = 27 ∨ k = 28 ∨ k = 29 := by omega
  rcases this with rfl | rfl | rfl | rfl | rfl | rfl | rfl | rfl | rfl | rfl <;> cases b
  · exact deep20_false n
  · exact deep20_true n
  · exact deep21_false n
  · exact deep21_true n
  · exact deep22_false n
  · exact deep22_true n
  · exact deep23_false n
  · exact deep23_true n
  · exact deep24_false n
  · exact deep24_true n
  · exact deep25_false n
  · exact deep25_true n
  · exact deep26_false n
  · exact deep26_true n
  · exact deep27_false n
  · exact deep27_true n
  · exact deep28_false n
  · exact deep28_true n
  · exact deep29_false n
  · exact deep29_true n
end Go.Proofs.Ytbbgpbgnbgiaiaa.EvA
