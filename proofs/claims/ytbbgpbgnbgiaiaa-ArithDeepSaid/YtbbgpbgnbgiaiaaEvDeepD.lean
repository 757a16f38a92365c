/- The law on what stands deep one in the other: depths 30 to 39. Printed by a program of this work. -/
import Derived.Test.YtbbgpbgnbgiaiaaEvDeep
namespace Go.Proofs.Ytbbgpbgnbgiaiaa.EvA
set_option linter.unusedVariables false
theorem deep30_false (n : Int) : Deep n 30 false := by unfold Deep; kernel_rfl
theorem deep30_true (n : Int) : Deep n 30 true := by unfold Deep; kernel_rfl
theorem deep31_false (n : Int) : Deep n 31 false := by unfold Deep; kernel_rfl
theorem deep31_true (n : Int) : Deep n 31 true := by unfold Deep; kernel_rfl
theorem deep32_false (n : Int) : Deep n 32 false := by unfold Deep; kernel_rfl
theorem deep32_true (n : Int) : Deep n 32 true := by unfold Deep; kernel_rfl
theorem deep33_false (n : Int) : Deep n 33 false := by unfold Deep; kernel_rfl
theorem deep33_true (n : Int) : Deep n 33 true := by unfold Deep; kernel_rfl
theorem deep34_false (n : Int) : Deep n 34 false := by unfold Deep; kernel_rfl
theorem deep34_true (n : Int) : Deep n 34 true := by unfold Deep; kernel_rfl
theorem deep35_false (n : Int) : Deep n 35 false := by unfold Deep; kernel_rfl
theorem deep35_true (n : Int) : Deep n 35 true := by unfold Deep; kernel_rfl
theorem deep36_false (n : Int) : Deep n 36 false := by unfold Deep; kernel_rfl
theorem deep36_true (n : Int) : Deep n 36 true := by unfold Deep; kernel_rfl
theorem deep37_false (n : Int) : Deep n 37 false := by unfold Deep; kernel_rfl
theorem deep37_true (n : Int) : Deep n 37 true := by unfold Deep; kernel_rfl
theorem deep38_false (n : Int) : Deep n 38 false := by unfold Deep; kernel_rfl
theorem deep38_true (n : Int) : Deep n 38 true := by unfold Deep; kernel_rfl
theorem deep39_false (n : Int) : Deep n 39 false := by unfold Deep; kernel_rfl
theorem deep39_true (n : Int) : Deep n 39 true := by unfold Deep; kernel_rfl
theorem deepq3 (n : Int) (k : Nat) (h1 : 30 ≤ k) (h2 : k < 40) (b : Bool) : Deep n (k : Int) b := by
  have : k = 30 ∨ k = 31 ∨ k = 32 ∨ k = 33 ∨ k = 34 ∨ k = 35 ∨ k = 36 ∨ k = 37 ∨ k = 38 ∨ k = 39 := by omega
  rcases this with rfl | rfl | rfl | rfl | rfl | rfl | rfl | rfl | rfl | rfl <;> cases b
  · exact deep30_false n
  · exact deep30_true n
  · exact deep31_false n
  · exact deep31_true n
  · exact deep32_false n
  · exact deep32_true n
  · exact deep33_false n
  · exact deep33_true n
  · exact deep34_false n
  · exact deep34_true n
  · exact deep35_false n
  · exact deep35_true n
  · exact deep36_false n
  · exact deep36_true n
  · exact deep37_false n
  · exact deep37_true n
  · exact deep38_false n
  · exact deep38_true n
  · exact deep39_false n
  · exact deep39_true n
end Go.Proofs.Ytbbgpbgnbgiaiaa.EvA
