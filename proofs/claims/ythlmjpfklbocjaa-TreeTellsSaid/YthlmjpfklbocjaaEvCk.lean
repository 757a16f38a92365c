/- A map's copy: the library's contract at this program, turned to the evaluator. Written by a program of this work (wip/tools/evclone.py) around the layings that the kit's tools print. -/
import Derived.Test.YthlmjpfklbocjaaEvCl
import Derived.Shelf.LaySoft
import Derived.Shelf.SlMaps.Clone
import Derived.Ground.SlmcProg
import Derived.Test.YthlmjpfklbocjaaProg
import Derived.KernelRfl
namespace Go.Proofs
open Go.RowKit Go.Maps Go.Shelf
set_option linter.unusedVariables false
def Try.clone32_ren : Go.Shelf.Ren := ⟨fun | 5 => 32 | 7 => 43 | n => n, fun | 23 => 45 | 25 => 9 | 3 => 3 | 4 => 4 | 20 => 20 | n => n, fun | n => n⟩
theorem Try.clone32 : Go.Proofs.SlLaysW.n5 Try.prog Try.clone32_ren := {
  mixed := by kernel_rfl
  f5 := ⟨Try.f32.name, by decide, Try.func32.trans (congrArg some (by kernel_rfl))⟩
  f7 := Try.func43.trans (congrArg some (by kernel_rfl))
  t4 := Try.underlying4
  a4 := Try.isAgg4
  z4 := Try.sizeOf4
  v4 := Try.zeroValue4
  t20 := Try.underlying20
  a20 := Try.isAgg20
  z20 := Try.sizeOf20
  v20 := Try.zeroValue20
  t23 := Try.underlying45
  a23 := Try.isAgg45
  z23 := Try.sizeOf45
  v23 := Try.zeroValue45 }
theorem Ythlmjpfklbocjaa.EvA.clones0 : Ythlmjpfklbocjaa.EvA.Clones Try.prog 32 := ⟨fun b es c w h => AnyW.maps_Clone Try.clone32 b es c w h, fun w => AnyW.maps_Clone_nil Try.clone32 w⟩
theorem Ythlmjpfklbocjaa.EvA.ck0_ok (B : Nat → Prop) (w0 : World) : Ythlmjpfklbocjaa.EvA.SumOk Try.prog B w0 (Ythlmjpfklbocjaa.EvA.sumAt 32 Ythlmjpfklbocjaa.EvA.cloneS) := Ythlmjpfklbocjaa.EvA.clone_ok Ythlmjpfklbocjaa.EvA.clones0 (enters_of Try.func32 (by kernel_rfl) rfl) B w0
end Go.Proofs
