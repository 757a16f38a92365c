/-
  No cell of these rows narrows 'for every input' (looked for: loops, veiled, ifaces, maps, wideKeys, modest, calm, conditions, laid).
  DERIVED. THE GIVEN ROWS OF THIS SEAT. 4 by the template 'for every input the law returns true; each argument reads behind the call as it read before'; 0 by the template 'total and deterministic' (their statements: YtbbgpbgnbgiaiaaTotals.lean).
  GIVEN WITH THE SEED: the statements are not yours to turn. If you find one false, say at which input.
  Laid BY PROGRAM, IN A SANDBOX (cutbox-rows.mjs): the forced cells as the released guide's own fill.sh prints them over the translation 4216657ef2749a80… (all of the seat's roots in one cut). By AI agents, Wed Nov 11 2026. No macro, syntax, notation, axiom, sorry.
-/
import Derived.Test.YtbbgpbgnbgiaiaaChecked
import GoSem.Claim
import GoSem.ClaimJoined
import GoSem.ClaimMapViews
import Derived.JoinedTies
import Derived.KernelRfl
namespace Go.Proofs.Ytbbgpbgnbgiaiaa
/- THE CELL 'sum', in the pinned program and in every row, IS THE sha256 OF THE DUMP (.gsa) THAT YtbbgpbgnbgiaiaaProg.lean LOADS. Nothing in Lean hashes anything: it is a label: what it is worth is what the hold of that sum in a sandbox is worth. -/
noncomputable def Try.pinned : Pinned := { name := "ytbbgpbgnbgiaiaa", sum := "4216657ef2749a805022482b0912b567925473451b7e6688035ecffdefbe7fe7", checked := Try.checked }
namespace Rows
def none {H : Type} : Left H := { results := [], args := [] }

/-- 'conchlaw8.ArithBinds': WHATEVER THE INPUT: true; the input reads as it did. -/
def arithBindsSpec : ChangeSpec := { name := "arithBinds", fn := fun _ => fun
  | [d1, d2, d3, d4] => { results := [.lit (.bool true)], args := [d1, d2, d3, d4] }
  | _ => none }
def arithBindsRow : OpenClaim := { program := "ytbbgpbgnbgiaiaa", sum := "4216657ef2749a805022482b0912b567925473451b7e6688035ecffdefbe7fe7", func := "conch/conchlaw8.ArithBinds", spec := "arithBinds", unfollowed := true, recurses := true, apart := false }
def ArithBindsSaid : Prop := arithBindsRow.holds Try.pinned (OpenSpec.ofChange arithBindsSpec)

/-- ITS FALSE NEIGHBOUR: 'it returns false'. Refute it at one input. -/
def arithBindsWrong : ChangeSpec := { name := "arithBinds", fn := fun _ => fun
  | [d1, d2, d3, d4] => { results := [.lit (.bool false)], args := [d1, d2, d3, d4] }
  | _ => none }
def ArithBindsWrongFalsely : Prop := arithBindsRow.holds Try.pinned (OpenSpec.ofChange arithBindsWrong)

/-- 'conchlaw8.ArithValues': WHATEVER THE INPUT: true; the input reads as it did. -/
def arithValuesSpec : ChangeSpec := { name := "arithValues", fn := fun _ => fun
  | [d1, d2] => { results := [.lit (.bool true)], args := [d1, d2] }
  | _ => none }
def arithValuesRow : OpenClaim := { program := "ytbbgpbgnbgiaiaa", sum := "4216657ef2749a805022482b0912b567925473451b7e6688035ecffdefbe7fe7", func := "conch/conchlaw8.ArithValues", spec := "arithValues", unfollowed := true, recurses := true, apart := false }
def ArithValuesSaid : Prop := arithValuesRow.holds Try.pinned (OpenSpec.ofChange arithValuesSpec)

/-- ITS FALSE NEIGHBOUR: 'it returns false'. Refute it at one input. -/
def arithValuesWrong : ChangeSpec := { name := "arithValues", fn := fun _ => fun
  | [d1, d2] => { results := [.lit (.bool false)], args := [d1, d2] }
  | _ => none }
def ArithValuesWrongFalsely : Prop := arithValuesRow.holds Try.pinned (OpenSpec.ofChange arithValuesWrong)

/-- 'conchlaw8.ArithDeep': WHATEVER THE INPUT: true; the input reads as it did. -/
def arithDeepSpec : ChangeSpec := { name := "arithDeep", fn := fun _ => fun
  | [d1, d2] => { results := [.lit (.bool true)], args := [d1, d2] }
  | _ => none }
def arithDeepRow : OpenClaim := { program := "ytbbgpbgnbgiaiaa", sum := "4216657ef2749a805022482b0912b567925473451b7e6688035ecffdefbe7fe7", func := "conch/conchlaw8.ArithDeep", spec := "arithDeep", unfollowed := true, recurses := true, apart := false }
def ArithDeepSaid : Prop := arithDeepRow.holds Try.pinned (OpenSpec.ofChange arithDeepSpec)

/-- ITS FALSE NEIGHBOUR: 'it returns false'. Refute it at one input. -/
def arithDeepWrong : ChangeSpec := { name := "arithDeep", fn := fun _ => fun
  | [d1, d2] => { results := [.lit (.bool false)], args := [d1, d2] }
  | _ => none }
def ArithDeepWrongFalsely : Prop := arithDeepRow.holds Try.pinned (OpenSpec.ofChange arithDeepWrong)

/-- 'conchlaw8.ArithWide': WHATEVER THE INPUT: true; the input reads as it did. -/
def arithWideSpec : ChangeSpec := { name := "arithWide", fn := fun _ => fun
  | [d1, d2] => { results := [.lit (.bool true)], args := [d1, d2] }
  | _ => none }
def arithWideRow : OpenClaim := { program := "ytbbgpbgnbgiaiaa", sum := "4216657ef2749a805022482b0912b567925473451b7e6688035ecffdefbe7fe7", func := "conch/conchlaw8.ArithWide", spec := "arithWide", unfollowed := true, recurses := true, apart := false }
def ArithWideSaid : Prop := arithWideRow.holds Try.pinned (OpenSpec.ofChange arithWideSpec)

/-- ITS FALSE NEIGHBOUR: 'it returns false'. Refute it at one input. -/
def arithWideWrong : ChangeSpec := { name := "arithWide", fn := fun _ => fun
  | [d1, d2] => { results := [.lit (.bool false)], args := [d1, d2] }
  | _ => none }
def ArithWideWrongFalsely : Prop := arithWideRow.holds Try.pinned (OpenSpec.ofChange arithWideWrong)

/- THE SECOND FORM. 'bulk': how many values and letters a reading holds, each counted each time it is reached (what is shared counts as often as it is met; a slice's spare places count too). A statement '..UptoSaid' is the law's where the arguments, and the package variables that the reading takes, are together of bulk at most 1048576: NARROWER than '..Said'. Prove '..Said' where nothing that the law and all that it calls make is longer than what came in: it says more and counts as full. Else prove '..UptoSaid'. A law counts once. -/
mutual
def uptoBulk {H : Type} : DataW H → Nat
  | .lit (.string bytes) => bytes.length + 1
  | .lit _ => 1
  | .nil => 1
  | .ptr d => uptoBulk d + 1
  | .slice elems spare => uptoBulkAll elems + uptoBulkAll spare + 1
  | .agg parts => uptoBulkAll parts + 1
  | .iface _ d => uptoBulk d + 1
  | .map entries => uptoBulkEntries entries + 1
  | .held _ => 1
def uptoBulkAll {H : Type} : List (DataW H) → Nat
  | [] => 0
  | d :: r => uptoBulk d + uptoBulkAll r
def uptoBulkEntries {H : Type} : List (Lit × DataW H) → Nat
  | [] => 0
  | x :: r => uptoBulkEntry x + uptoBulkEntries r
def uptoBulkEntry {H : Type} : Lit × DataW H → Nat
  | (.string bytes, d) => bytes.length + uptoBulk d + 1
  | (_, d) => uptoBulk d + 1
 end
def uptoSmall : (H : Type) → List (DataW H) → Bool := fun _ ds => decide (uptoBulkAll ds ≤ 1048576)
def OpenSpec.upto (s : _root_.Go.ChangeSpec) : _root_.Go.OpenSpec := { _root_.Go.OpenSpec.ofChange s with cond := some uptoSmall }

/-- 'conchlaw8.ArithBinds', WHERE WHAT IT READS IS OF BULK AT MOST 1048576: true; the input reads as it did. -/
def arithBindsUptoRow : OpenClaim := { program := "ytbbgpbgnbgiaiaa", sum := "4216657ef2749a805022482b0912b567925473451b7e6688035ecffdefbe7fe7", func := "conch/conchlaw8.ArithBinds", spec := "arithBinds", unfollowed := true, recurses := true, apart := false, narrowed := true }
def ArithBindsUptoSaid : Prop := arithBindsUptoRow.holds Try.pinned (OpenSpec.upto arithBindsSpec)

/-- 'conchlaw8.ArithValues', WHERE WHAT IT READS IS OF BULK AT MOST 1048576: true; the input reads as it did. -/
def arithValuesUptoRow : OpenClaim := { program := "ytbbgpbgnbgiaiaa", sum := "4216657ef2749a805022482b0912b567925473451b7e6688035ecffdefbe7fe7", func := "conch/conchlaw8.ArithValues", spec := "arithValues", unfollowed := true, recurses := true, apart := false, narrowed := true }
def ArithValuesUptoSaid : Prop := arithValuesUptoRow.holds Try.pinned (OpenSpec.upto arithValuesSpec)

/-- 'conchlaw8.ArithDeep', WHERE WHAT IT READS IS OF BULK AT MOST 1048576: true; the input reads as it did. -/
def arithDeepUptoRow : OpenClaim := { program := "ytbbgpbgnbgiaiaa", sum := "4216657ef2749a805022482b0912b567925473451b7e6688035ecffdefbe7fe7", func := "conch/conchlaw8.ArithDeep", spec := "arithDeep", unfollowed := true, recurses := true, apart := false, narrowed := true }
def ArithDeepUptoSaid : Prop := arithDeepUptoRow.holds Try.pinned (OpenSpec.upto arithDeepSpec)

/-- 'conchlaw8.ArithWide', WHERE WHAT IT READS IS OF BULK AT MOST 1048576: true; the input reads as it did. -/
def arithWideUptoRow : OpenClaim := { program := "ytbbgpbgnbgiaiaa", sum := "4216657ef2749a805022482b0912b567925473451b7e6688035ecffdefbe7fe7", func := "conch/conchlaw8.ArithWide", spec := "arithWide", unfollowed := true, recurses := true, apart := false, narrowed := true }
def ArithWideUptoSaid : Prop := arithWideUptoRow.holds Try.pinned (OpenSpec.upto arithWideSpec)

end Rows
end Go.Proofs.Ytbbgpbgnbgiaiaa
