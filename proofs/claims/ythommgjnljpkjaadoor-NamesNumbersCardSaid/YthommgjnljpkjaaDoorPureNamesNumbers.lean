/- Every error, limit and kind has the number that the document gives it: the plain statement. -/
import Derived.Test.YthommgjnljpkjaaDoorPAllx1
namespace Go.Proofs.YthommgjnljpkjaaDoor.Pure
open Go.RowKit Go.Proofs.YthommgjnljpkjaaDoor.PAll Go.Proofs.YthommgjnljpkjaaDoorW.PrintWords Go.Proofs.YthommgjnljpkjaaDoorW.PrintLast
theorem NamesNumbers : conchlaw0_NamesNumbers.Pure := ⟨200, by decide +kernel⟩
end Go.Proofs.YthommgjnljpkjaaDoor.Pure
