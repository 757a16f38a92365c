/- A map's copy: the library's contract at this program, turned to the evaluator. Written by a program of this work (wip/tools/evclone.py) around the layings that the kit's tools print. -/
import Derived.Test.YtjpmpnmjglbdiaaEvCl
import Derived.Shelf.LaySoft
import Derived.Shelf.SlMaps.Clone
import Derived.Ground.SlmcProg
import Derived.Test.YtjpmpnmjglbdiaaProg
import Derived.KernelRfl
namespace Go.Proofs
open Go.RowKit Go.Maps Go.Shelf
set_option linter.unusedVariables false
def Try.clone40_ren : Go.Shelf.Ren := ⟨fun | 5 => 40 | 7 => 50 | n => n, fun | 23 => 33 | 25 => 9 | 3 => 9 | 4 => 4 | 20 => 20 | n => n, fun | n => n⟩
theorem Try.clone40 : Go.Proofs.SlLaysW.n5 Try.prog Try.clone40_ren := {
  mixed := by kernel_rfl
  f5 := ⟨Try.f40.name, by decide, Try.func40.trans (congrArg some (by kernel_rfl))⟩
  f7 := Try.func50.trans (congrArg some (by kernel_rfl))
  t4 := Try.underlying4
  a4 := Try.isAgg4
  z4 := Try.sizeOf4
  v4 := Try.zeroValue4
  t20 := Try.underlying20
  a20 := Try.isAgg20
  z20 := Try.sizeOf20
  v20 := Try.zeroValue20
  t23 := Try.underlying33
  a23 := Try.isAgg33
  z23 := Try.sizeOf33
  v23 := Try.zeroValue33 }
def Try.clone41_ren : Go.Shelf.Ren := ⟨fun | 5 => 41 | 7 => 50 | n => n, fun | 23 => 60 | 25 => 5 | 3 => 3 | 4 => 4 | 20 => 20 | n => n, fun | n => n⟩
theorem Try.clone41 : Go.Proofs.SlLaysW.n5 Try.prog Try.clone41_ren := {
  mixed := by kernel_rfl
  f5 := ⟨Try.f41.name, by decide, Try.func41.trans (congrArg some (by kernel_rfl))⟩
  f7 := Try.func50.trans (congrArg some (by kernel_rfl))
  t4 := Try.underlying4
  a4 := Try.isAgg4
  z4 := Try.sizeOf4
  v4 := Try.zeroValue4
  t20 := Try.underlying20
  a20 := Try.isAgg20
  z20 := Try.sizeOf20
  v20 := Try.zeroValue20
  t23 := Try.underlying60
  a23 := Try.isAgg60
  z23 := Try.sizeOf60
  v23 := Try.zeroValue60 }
theorem Ytjpmpnmjglbdiaa.EvA.clones0 : Ytjpmpnmjglbdiaa.EvA.Clones Try.prog 40 := ⟨fun b es c w h => AnyW.maps_Clone Try.clone40 b es c w h, fun w => AnyW.maps_Clone_nil Try.clone40 w⟩
theorem Ytjpmpnmjglbdiaa.EvA.ck0_ok (B : Nat → Prop) (w0 : World) : Ytjpmpnmjglbdiaa.EvA.SumOk Try.prog B w0 (Ytjpmpnmjglbdiaa.EvA.sumAt 40 Ytjpmpnmjglbdiaa.EvA.cloneS) := Ytjpmpnmjglbdiaa.EvA.clone_ok Ytjpmpnmjglbdiaa.EvA.clones0 (enters_of Try.func40 (by kernel_rfl) rfl) B w0
theorem Ytjpmpnmjglbdiaa.EvA.clones1 : Ytjpmpnmjglbdiaa.EvA.Clones Try.prog 41 := ⟨fun b es c w h => AnyW.maps_Clone Try.clone41 b es c w h, fun w => AnyW.maps_Clone_nil Try.clone41 w⟩
theorem Ytjpmpnmjglbdiaa.EvA.ck1_ok (B : Nat → Prop) (w0 : World) : Ytjpmpnmjglbdiaa.EvA.SumOk Try.prog B w0 (Ytjpmpnmjglbdiaa.EvA.sumAt 41 Ytjpmpnmjglbdiaa.EvA.cloneS) := Ytjpmpnmjglbdiaa.EvA.clone_ok Ytjpmpnmjglbdiaa.EvA.clones1 (enters_of Try.func41 (by kernel_rfl) rfl) B w0
end Go.Proofs
