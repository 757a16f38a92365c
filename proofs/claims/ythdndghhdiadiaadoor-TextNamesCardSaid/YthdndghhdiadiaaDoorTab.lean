/- What the library's contracts ask of the world, beside what a call is handed: the table of powers of ten, and that one cell is a whole number; both lie below what a call makes. -/
import Derived.Test.YthdndghhdiadiaaDoorProg
import Derived.Test.YthdndghhdiadiaaDoorWWords
import Derived.Lib.SmallJoins
import Derived.Lib.LaidTab
import Derived.Lib.ItoaNum
namespace Go.Proofs.YthdndghhdiadiaaDoor.Tab
open Go.RowKit Go.Proofs.YthdndghhdiadiaaDoorW.PrintWords
def TabP (w : World) : Prop := Lib.TabIs Tryd.prog w "internal/strconv.uint64pow10" .u64 Lib.pow10Tab ∧ ∃ m, w.cell? ⟨1, 0, none⟩ = some (.int .i64 m)
theorem gTab : Tryd.prog.globalNamed "internal/strconv.uint64pow10" = some 0 := by kernel_rfl
theorem lt_of_cell {w : World} {g : Nat} {v : Value} (h : w.cell? ⟨g, 0, none⟩ = some v) : g < w.heap.size := by
  rcases Nat.lt_or_ge g w.heap.size with h' | h'
  · exact h'
  · unfold World.cell? at h
    rw [Array.getElem?_eq_none h'] at h
    cases h
theorem tabs_step {w0 w : World} (h : Aside0 (TabP w0)) (hb : Below w0.heap.size w0 w) : Aside0 (TabP w) := by
  obtain ⟨⟨h1, m, h2⟩⟩ := h
  exact ⟨Go.Joins.tab_stays gTab h1 hb (Nat.le_refl _), m, (hb.cell (p := ⟨1, 0, none⟩) (lt_of_cell h2)).trans h2⟩
end Go.Proofs.YthdndghhdiadiaaDoor.Tab
