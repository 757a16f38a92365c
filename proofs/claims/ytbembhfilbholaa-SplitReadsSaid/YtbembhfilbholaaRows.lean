/-
  No cell of these rows narrows 'for every input' (looked for: loops, veiled, ifaces, maps, wideKeys, modest, calm, conditions, laid).
  DERIVED. THE GIVEN ROWS OF THIS SEAT. 5 by the template 'for every input the law returns true; each argument reads behind the call as it read before'; 0 by the template 'total and deterministic' (their statements: YtbembhfilbholaaTotals.lean).
  GIVEN WITH THE SEED: the statements are not yours to turn. If you find one false, say at which input.
  Laid BY PROGRAM, IN A SANDBOX (cutbox-rows.mjs): the forced cells as the released guide's own fill.sh prints them over the translation 8b0dd99740b4e2cb… (all of the seat's roots in one cut). By AI agents, Wed Nov 11 2026. No macro, syntax, notation, axiom, sorry.
-/
import Derived.Test.YtbembhfilbholaaChecked
import GoSem.Claim
import GoSem.ClaimJoined
import GoSem.ClaimMapViews
import Derived.JoinedTies
import Derived.KernelRfl
namespace Go.Proofs.Ytbembhfilbholaa
/- THE CELL 'sum', in the pinned program and in every row, IS THE sha256 OF THE DUMP (.gsa) THAT YtbembhfilbholaaProg.lean LOADS. Nothing in Lean hashes anything: it is a label: what it is worth is what the hold of that sum in a sandbox is worth. -/
noncomputable def Try.pinned : Pinned := { name := "ytbembhfilbholaa", sum := "8b0dd99740b4e2cba4b7b36d3d821f4d4383780a75a38476b36cb5278717c129", checked := Try.checked }
namespace Rows
def none {H : Type} : Left H := { results := [], args := [] }

/-- 'conchlaw7.SplitTrims': WHATEVER THE INPUT: true; the input reads as it did. -/
def splitTrimsSpec : ChangeSpec := { name := "splitTrims", fn := fun _ => fun
  | [d1, d2, d3] => { results := [.lit (.bool true)], args := [d1, d2, d3] }
  | _ => none }
def splitTrimsRow : OpenClaim := { program := "ytbembhfilbholaa", sum := "8b0dd99740b4e2cba4b7b36d3d821f4d4383780a75a38476b36cb5278717c129", func := "conch/conchlaw7.SplitTrims", spec := "splitTrims", inPlace := ["internal/bytealg.IndexByteString"], apart := false }
def SplitTrimsSaid : Prop := splitTrimsRow.holds Try.pinned (OpenSpec.ofChange splitTrimsSpec)

/-- ITS FALSE NEIGHBOUR: 'it returns false'. Refute it at one input. -/
def splitTrimsWrong : ChangeSpec := { name := "splitTrims", fn := fun _ => fun
  | [d1, d2, d3] => { results := [.lit (.bool false)], args := [d1, d2, d3] }
  | _ => none }
def SplitTrimsWrongFalsely : Prop := splitTrimsRow.holds Try.pinned (OpenSpec.ofChange splitTrimsWrong)

/-- 'conchlaw7.SplitTells': WHATEVER THE INPUT: true; the input reads as it did. -/
def splitTellsSpec : ChangeSpec := { name := "splitTells", fn := fun _ => fun
  | [d1, d2, d3] => { results := [.lit (.bool true)], args := [d1, d2, d3] }
  | _ => none }
def splitTellsRow : OpenClaim := { program := "ytbembhfilbholaa", sum := "8b0dd99740b4e2cba4b7b36d3d821f4d4383780a75a38476b36cb5278717c129", func := "conch/conchlaw7.SplitTells", spec := "splitTells", inPlace := ["internal/bytealg.IndexByteString"], apart := false }
def SplitTellsSaid : Prop := splitTellsRow.holds Try.pinned (OpenSpec.ofChange splitTellsSpec)

/-- ITS FALSE NEIGHBOUR: 'it returns false'. Refute it at one input. -/
def splitTellsWrong : ChangeSpec := { name := "splitTells", fn := fun _ => fun
  | [d1, d2, d3] => { results := [.lit (.bool false)], args := [d1, d2, d3] }
  | _ => none }
def SplitTellsWrongFalsely : Prop := splitTellsRow.holds Try.pinned (OpenSpec.ofChange splitTellsWrong)

/-- 'conchlaw7.SplitWhole': WHATEVER THE INPUT: true; the input reads as it did. -/
def splitWholeSpec : ChangeSpec := { name := "splitWhole", fn := fun _ => fun
  | [d1, d2] => { results := [.lit (.bool true)], args := [d1, d2] }
  | _ => none }
def splitWholeRow : OpenClaim := { program := "ytbembhfilbholaa", sum := "8b0dd99740b4e2cba4b7b36d3d821f4d4383780a75a38476b36cb5278717c129", func := "conch/conchlaw7.SplitWhole", spec := "splitWhole", inPlace := ["internal/bytealg.IndexByteString"], apart := false }
def SplitWholeSaid : Prop := splitWholeRow.holds Try.pinned (OpenSpec.ofChange splitWholeSpec)

/-- ITS FALSE NEIGHBOUR: 'it returns false'. Refute it at one input. -/
def splitWholeWrong : ChangeSpec := { name := "splitWhole", fn := fun _ => fun
  | [d1, d2] => { results := [.lit (.bool false)], args := [d1, d2] }
  | _ => none }
def SplitWholeWrongFalsely : Prop := splitWholeRow.holds Try.pinned (OpenSpec.ofChange splitWholeWrong)

/-- 'conchlaw7.SplitJoins': WHATEVER THE INPUT: true; the input reads as it did. -/
def splitJoinsSpec : ChangeSpec := { name := "splitJoins", fn := fun _ => fun
  | [d1, d2, d3] => { results := [.lit (.bool true)], args := [d1, d2, d3] }
  | _ => none }
def splitJoinsRow : OpenClaim := { program := "ytbembhfilbholaa", sum := "8b0dd99740b4e2cba4b7b36d3d821f4d4383780a75a38476b36cb5278717c129", func := "conch/conchlaw7.SplitJoins", spec := "splitJoins", inPlace := ["internal/bytealg.IndexByteString"], apart := false }
def SplitJoinsSaid : Prop := splitJoinsRow.holds Try.pinned (OpenSpec.ofChange splitJoinsSpec)

/-- ITS FALSE NEIGHBOUR: 'it returns false'. Refute it at one input. -/
def splitJoinsWrong : ChangeSpec := { name := "splitJoins", fn := fun _ => fun
  | [d1, d2, d3] => { results := [.lit (.bool false)], args := [d1, d2, d3] }
  | _ => none }
def SplitJoinsWrongFalsely : Prop := splitJoinsRow.holds Try.pinned (OpenSpec.ofChange splitJoinsWrong)

/-- 'conchlaw7.SplitReads': WHATEVER THE INPUT: true; the input reads as it did. -/
def splitReadsSpec : ChangeSpec := { name := "splitReads", fn := fun _ => fun
  | [d1, d2] => { results := [.lit (.bool true)], args := [d1, d2] }
  | _ => none }
def splitReadsRow : OpenClaim := { program := "ytbembhfilbholaa", sum := "8b0dd99740b4e2cba4b7b36d3d821f4d4383780a75a38476b36cb5278717c129", func := "conch/conchlaw7.SplitReads", spec := "splitReads", inPlace := ["internal/bytealg.IndexByteString"], apart := false }
def SplitReadsSaid : Prop := splitReadsRow.holds Try.pinned (OpenSpec.ofChange splitReadsSpec)

/-- ITS FALSE NEIGHBOUR: 'it returns false'. Refute it at one input. -/
def splitReadsWrong : ChangeSpec := { name := "splitReads", fn := fun _ => fun
  | [d1, d2] => { results := [.lit (.bool false)], args := [d1, d2] }
  | _ => none }
def SplitReadsWrongFalsely : Prop := splitReadsRow.holds Try.pinned (OpenSpec.ofChange splitReadsWrong)

/- THE SECOND FORM. 'bulk': how many values and letters a reading holds, each counted each time it is reached (what is shared counts as often as it is met; a slice's spare places count too). A statement '..UptoSaid' is the law's where the arguments, and the package variables that the reading takes, are together of bulk at most 1048576: NARROWER than '..Said'. Prove '..Said' where nothing that the law and all that it calls make is longer than what came in: it says more and counts as full. Else prove '..UptoSaid'. A law counts once. -/
mutual
def uptoBulk {H : Type} : DataW H → Nat
  | .lit (.string bytes) => bytes.length + 1
  | .lit _ => 1
  | .nil => 1
  | .ptr d => uptoBulk d + 1
  | .slice elems spare => uptoBulkAll elems + uptoBulkAll spare + 1
  | .agg parts => uptoBulkAll parts + 1
  | .iface _ d => uptoBulk d + 1
  | .map entries => uptoBulkEntries entries + 1
  | .held _ => 1
def uptoBulkAll {H : Type} : List (DataW H) → Nat
  | [] => 0
  | d :: r => uptoBulk d + uptoBulkAll r
def uptoBulkEntries {H : Type} : List (Lit × DataW H) → Nat
  | [] => 0
  | x :: r => uptoBulkEntry x + uptoBulkEntries r
def uptoBulkEntry {H : Type} : Lit × DataW H → Nat
  | (.string bytes, d) => bytes.length + uptoBulk d + 1
  | (_, d) => uptoBulk d + 1
 end
def uptoSmall : (H : Type) → List (DataW H) → Bool := fun _ ds => decide (uptoBulkAll ds ≤ 1048576)
def OpenSpec.upto (s : _root_.Go.ChangeSpec) : _root_.Go.OpenSpec := { _root_.Go.OpenSpec.ofChange s with cond := some uptoSmall }

/-- 'conchlaw7.SplitTrims', WHERE WHAT IT READS IS OF BULK AT MOST 1048576: true; the input reads as it did. -/
def splitTrimsUptoRow : OpenClaim := { program := "ytbembhfilbholaa", sum := "8b0dd99740b4e2cba4b7b36d3d821f4d4383780a75a38476b36cb5278717c129", func := "conch/conchlaw7.SplitTrims", spec := "splitTrims", inPlace := ["internal/bytealg.IndexByteString"], apart := false, narrowed := true }
def SplitTrimsUptoSaid : Prop := splitTrimsUptoRow.holds Try.pinned (OpenSpec.upto splitTrimsSpec)

/-- 'conchlaw7.SplitTells', WHERE WHAT IT READS IS OF BULK AT MOST 1048576: true; the input reads as it did. -/
def splitTellsUptoRow : OpenClaim := { program := "ytbembhfilbholaa", sum := "8b0dd99740b4e2cba4b7b36d3d821f4d4383780a75a38476b36cb5278717c129", func := "conch/conchlaw7.SplitTells", spec := "splitTells", inPlace := ["internal/bytealg.IndexByteString"], apart := false, narrowed := true }
def SplitTellsUptoSaid : Prop := splitTellsUptoRow.holds Try.pinned (OpenSpec.upto splitTellsSpec)

/-- 'conchlaw7.SplitWhole', WHERE WHAT IT READS IS OF BULK AT MOST 1048576: true; the input reads as it did. -/
def splitWholeUptoRow : OpenClaim := { program := "ytbembhfilbholaa", sum := "8b0dd99740b4e2cba4b7b36d3d821f4d4383780a75a38476b36cb5278717c129", func := "conch/conchlaw7.SplitWhole", spec := "splitWhole", inPlace := ["internal/bytealg.IndexByteString"], apart := false, narrowed := true }
def SplitWholeUptoSaid : Prop := splitWholeUptoRow.holds Try.pinned (OpenSpec.upto splitWholeSpec)

/-- 'conchlaw7.SplitJoins', WHERE WHAT IT READS IS OF BULK AT MOST 1048576: true; the input reads as it did. -/
def splitJoinsUptoRow : OpenClaim := { program := "ytbembhfilbholaa", sum := "8b0dd99740b4e2cba4b7b36d3d821f4d4383780a75a38476b36cb5278717c129", func := "conch/conchlaw7.SplitJoins", spec := "splitJoins", inPlace := ["internal/bytealg.IndexByteString"], apart := false, narrowed := true }
def SplitJoinsUptoSaid : Prop := splitJoinsUptoRow.holds Try.pinned (OpenSpec.upto splitJoinsSpec)

/-- 'conchlaw7.SplitReads', WHERE WHAT IT READS IS OF BULK AT MOST 1048576: true; the input reads as it did. -/
def splitReadsUptoRow : OpenClaim := { program := "ytbembhfilbholaa", sum := "8b0dd99740b4e2cba4b7b36d3d821f4d4383780a75a38476b36cb5278717c129", func := "conch/conchlaw7.SplitReads", spec := "splitReads", inPlace := ["internal/bytealg.IndexByteString"], apart := false, narrowed := true }
def SplitReadsUptoSaid : Prop := splitReadsUptoRow.holds Try.pinned (OpenSpec.upto splitReadsSpec)

end Rows
end Go.Proofs.Ytbembhfilbholaa
