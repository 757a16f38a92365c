/- The law on what stands deep one in the other: depths 10 to 19. Printed by a program of this work. -/
import Derived.Test.YtbbgpbgnbgiaiaaEvDeep
namespace Go.Proofs.Ytbbgpbgnbgiaiaa.EvA
set_option linter.unusedVariables false
theorem deep10_false (n : Int) : Deep n 10 false := by unfold Deep; kernel_rfl
theorem deep10_true (n : Int) : Deep n 10 true := by unfold Deep; kernel_rfl
theorem deep11_false (n : Int) : Deep n 11 false := by unfold Deep; kernel_rfl
theorem deep11_true (n : Int) : Deep n 11 true := by unfold Deep; kernel_rfl
theorem deep12_false (n : Int) : Deep n 12 false := by unfold Deep; kernel_rfl
theorem deep12_true (n : Int) : Deep n 12 true := by unfold Deep; kernel_rfl
theorem deep13_false (n : Int) : Deep n 13 false := by unfold Deep; kernel_rfl
theorem deep13_true (n : Int) : Deep n 13 true := by unfold Deep; kernel_rfl
theorem deep14_false (n : Int) : Deep n 14 false := by unfold Deep; kernel_rfl
theorem deep14_true (n : Int) : Deep n 14 true := by unfold Deep; kernel_rfl
theorem deep15_false (n : Int) : Deep n 15 false := by unfold Deep; kernel_rfl
theorem deep15_true (n : Int) : Deep n 15 true := by unfold Deep; kernel_rfl
theorem deep16_false (n : Int) : Deep n 16 false := by unfold Deep; kernel_rfl
theorem deep16_true (n : Int) : Deep n 16 true := by unfold Deep; kernel_rfl
theorem deep17_false (n : Int) : Deep n 17 false := by unfold Deep; kernel_rfl
theorem deep17_true (n : Int) : Deep n 17 true := by unfold Deep; kernel_rfl
theorem deep18_false (n : Int) : Deep n 18 false := by unfold Deep; kernel_rfl
theorem deep18_true (n : Int) : Deep n 18 true := by unfold Deep; kernel_rfl
theorem deep19_false (n : Int) : Deep n 19 false := by unfold Deep; kernel_rfl
theorem deep19_true (n : Int) : Deep n 19 true := by unfold Deep; kernel_rfl
theorem deepq1 (n : Int) (k : Nat) (h1 : 10 ≤ k) (h2 : k < 20) (b : Bool) : Deep n (k : Int) b := by
  have : k = 10 ∨ k = 11 ∨ k = 12 ∨ k = 13 ∨ k = 14 ∨ k = 15 ∨ k = 16 ∨ k = 17 ∨ k = 18 ∨ k = 19 := by omega
  rcases this with rfl | rfl | rfl | rfl | rfl | rfl | rfl | rfl | rfl | rfl <;> cases b
  · exact deep10_false n
  · exact deep10_true n
  · exact deep11_false n
  · exact deep11_true n
  · exact deep12_false n
  · exact deep12_true n
  · exact deep13_false n
  · exact deep13_true n
  · exact deep14_false n
  · exact deep14_true n
  · exact deep15_false n
  · exact deep15_true n
  · exact deep16_false n
  · exact deep16_true n
  · exact deep17_false n
  · exact deep17_true n
  · exact deep18_false n
  · exact deep18_true n
  · exact deep19_false n
  · exact deep19_true n
end Go.Proofs.Ytbbgpbgnbgiaiaa.EvA
