/- The door's tables, as the contracts ask for them. -/
import Derived.Test.YthdndghhdiadiaaDoorDoor
import Derived.Test.YthdndghhdiadiaaDoorTab
import Derived.Test.YthdndghhdiadiaaDoorShelf
namespace Go.Proofs.YthdndghhdiadiaaDoor.Door
open Go.ChangeShapes Go.WideShapes Go.ChangeAt Go.RowKit Go.Proofs.YthdndghhdiadiaaDoorW.PrintWords
set_option maxRecDepth 100000 in
theorem ht {W : World} (hL : laidMetH Tryd.prog laidAll W) (hsh : W.ShapedOpen Tryd.prog) : Aside0 (Tab.TabP W) := by
  rw [MakeChecks.laidMetH_plain _ _ _ (by kernel_rfl)] at hL
  have e : (Rows.laid_internal_strconv_uint64pow10 : DataW Unit) = Lib.tabData .u64 Lib.pow10Tab := by kernel_rfl
  have h3 := laidMet.tail (laidMet.tail hL)
  rw [e] at h3
  exact ⟨Lib.tabIs_of_head Tab.gTab (t := 57) (e := 38) (n := 20) (by kernel_rfl) Tryd.underlying57 Tryd.underlying38 (by kernel_rfl) (by kernel_rfl) h3, Tryd.laysM146.s1_3 W hsh⟩
end Go.Proofs.YthdndghhdiadiaaDoor.Door
