/-
  DERIVED. GIVEN WITH THE SEED: THE CARDS: each row of YthdndghhdiadiaaDoorRows.lean that lists a variable, with what it lists TIED to the program's text (the seventh form; the later family's looks); each row that meets fmt, with fmt's text TOLD by the authors' own Lean function (tested against real Go, not proved from fmt's source: count such statements apart). THE CARD IS WHAT COUNTS. Prove the row's statement (the work); the ties are given (YthdndghhdiadiaaDoorTie.lean); close each card by the builder's one call (the guide's Derived/Test/ToyasCard.lean, 'card_holds'). Laid BY PROGRAM, IN A SANDBOX (cutbox-door.mjs). By AI agents, Wed Nov 11 2026. No macro, syntax, notation, axiom, sorry.
-/
import Derived.Test.YthdndghhdiadiaaDoorRows
import GoSem.ClaimSeven
namespace Go.Proofs.YthdndghhdiadiaaDoor
namespace Rows

/-- THE TIED CARD OF 'conchlaw1.TextBounds'. -/
def textBoundsCard : Claim7 := { stood := { row := textBoundsRow, standIns := [], harness := (true, "d13e51c4ff1bf39cbf2918806ade78393cb2e86bed4a761a3c43d89addcb10d5"), looks := false }, kinds := [], alts := [], laidByText := true, laidKinds := [.data, .data, .data, .data, .pinned], laidTests := true, laidLooks := .later }
def TextBoundsCardSaid : Prop := Claim7.holds Tryd.pinned (.plain (OpenSpec.ofChange textBoundsSpec)) textBoundsCard

/-- THE TIED CARD OF 'conchlaw1.TextTells'. -/
def textTellsCard : Claim7 := { stood := { row := textTellsRow, standIns := [], harness := (true, "d13e51c4ff1bf39cbf2918806ade78393cb2e86bed4a761a3c43d89addcb10d5"), looks := false }, kinds := [], alts := [], laidByText := true, laidKinds := [.data, .data, .data, .data, .pinned], laidTests := true, laidLooks := .later }
def TextTellsCardSaid : Prop := Claim7.holds Tryd.pinned (.plain (OpenSpec.ofChange textTellsSpec)) textTellsCard

/-- THE TIED CARD OF 'conchlaw1.TextBack'. -/
def textBackCard : Claim7 := { stood := { row := textBackRow, standIns := [], harness := (true, "d13e51c4ff1bf39cbf2918806ade78393cb2e86bed4a761a3c43d89addcb10d5"), looks := false }, kinds := [], alts := [], laidByText := true, laidKinds := [.data, .data, .data, .data, .pinned], laidTests := true, laidLooks := .later }
def TextBackCardSaid : Prop := Claim7.holds Tryd.pinned (.plain (OpenSpec.ofChange textBackSpec)) textBackCard

/-- THE TIED CARD OF 'conchlaw1.TextNames'. -/
def textNamesCard : Claim7 := { stood := { row := textNamesRow, standIns := [], harness := (true, "d13e51c4ff1bf39cbf2918806ade78393cb2e86bed4a761a3c43d89addcb10d5"), looks := false }, kinds := [], alts := [], laidByText := true, laidKinds := [.data, .data, .data, .data, .pinned], laidTests := true, laidLooks := .later }
def TextNamesCardSaid : Prop := Claim7.holds Tryd.pinned (.plain (OpenSpec.ofChange textNamesSpec)) textNamesCard

/-- THE SECOND FORM's CARD OF 'conchlaw1.TextBounds'. -/
def textBoundsUptoCard : Claim7 := { stood := { row := textBoundsUptoRow, standIns := [], harness := (true, "d13e51c4ff1bf39cbf2918806ade78393cb2e86bed4a761a3c43d89addcb10d5"), looks := false }, kinds := [], alts := [], laidByText := true, laidKinds := [.data, .data, .data, .data, .pinned], laidTests := true, laidLooks := .later }
def TextBoundsUptoCardSaid : Prop := Claim7.holds Tryd.pinned (.plain (OpenSpec.upto textBoundsSpec)) textBoundsUptoCard

/-- THE SECOND FORM's CARD OF 'conchlaw1.TextTells'. -/
def textTellsUptoCard : Claim7 := { stood := { row := textTellsUptoRow, standIns := [], harness := (true, "d13e51c4ff1bf39cbf2918806ade78393cb2e86bed4a761a3c43d89addcb10d5"), looks := false }, kinds := [], alts := [], laidByText := true, laidKinds := [.data, .data, .data, .data, .pinned], laidTests := true, laidLooks := .later }
def TextTellsUptoCardSaid : Prop := Claim7.holds Tryd.pinned (.plain (OpenSpec.upto textTellsSpec)) textTellsUptoCard

/-- THE SECOND FORM's CARD OF 'conchlaw1.TextBack'. -/
def textBackUptoCard : Claim7 := { stood := { row := textBackUptoRow, standIns := [], harness := (true, "d13e51c4ff1bf39cbf2918806ade78393cb2e86bed4a761a3c43d89addcb10d5"), looks := false }, kinds := [], alts := [], laidByText := true, laidKinds := [.data, .data, .data, .data, .pinned], laidTests := true, laidLooks := .later }
def TextBackUptoCardSaid : Prop := Claim7.holds Tryd.pinned (.plain (OpenSpec.upto textBackSpec)) textBackUptoCard

/-- THE SECOND FORM's CARD OF 'conchlaw1.TextNames'. -/
def textNamesUptoCard : Claim7 := { stood := { row := textNamesUptoRow, standIns := [], harness := (true, "d13e51c4ff1bf39cbf2918806ade78393cb2e86bed4a761a3c43d89addcb10d5"), looks := false }, kinds := [], alts := [], laidByText := true, laidKinds := [.data, .data, .data, .data, .pinned], laidTests := true, laidLooks := .later }
def TextNamesUptoCardSaid : Prop := Claim7.holds Tryd.pinned (.plain (OpenSpec.upto textNamesSpec)) textNamesUptoCard
end Rows
end Go.Proofs.YthdndghhdiadiaaDoor
