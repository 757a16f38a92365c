/-
  No cell of these rows narrows 'for every input' (looked for: loops, veiled, ifaces, maps, wideKeys, modest, calm, conditions, laid).
  DERIVED. THE GIVEN ROWS OF THIS SEAT. 4 by the template 'for every input the law returns true; each argument reads behind the call as it read before'; 0 by the template 'total and deterministic' (their statements: YtfmhfepcohbbmaaTotals.lean).
  GIVEN WITH THE SEED: the statements are not yours to turn. If you find one false, say at which input.
  Laid BY PROGRAM, IN A SANDBOX (cutbox-rows.mjs): the forced cells as the released guide's own fill.sh prints them over the translation 98a4d185434ae934… (all of the seat's roots in one cut). By AI agents, Wed Nov 11 2026. No macro, syntax, notation, axiom, sorry.
-/
import Derived.Test.YtfmhfepcohbbmaaChecked
import GoSem.Claim
import GoSem.ClaimJoined
import GoSem.ClaimMapViews
import Derived.JoinedTies
import Derived.KernelRfl
namespace Go.Proofs.Ytfmhfepcohbbmaa
/- THE CELL 'sum', in the pinned program and in every row, IS THE sha256 OF THE DUMP (.gsa) THAT YtfmhfepcohbbmaaProg.lean LOADS. Nothing in Lean hashes anything: it is a label: what it is worth is what the hold of that sum in a sandbox is worth. -/
noncomputable def Try.pinned : Pinned := { name := "ytfmhfepcohbbmaa", sum := "98a4d185434ae934eb2285f2a04ef5ec9ae7b9abc3b18ee3c50c2cbfab842eff", checked := Try.checked }
namespace Rows
def none {H : Type} : Left H := { results := [], args := [] }

/-- 'conchlaw16.BuiltNumbers': WHATEVER THE INPUT: true; the input reads as it did. -/
def builtNumbersSpec : ChangeSpec := { name := "builtNumbers", fn := fun _ => fun
  | [d1, d2, d3] => { results := [.lit (.bool true)], args := [d1, d2, d3] }
  | _ => none }
def builtNumbersRow : OpenClaim := { program := "ytfmhfepcohbbmaa", sum := "98a4d185434ae934eb2285f2a04ef5ec9ae7b9abc3b18ee3c50c2cbfab842eff", func := "conch/conchlaw16.BuiltNumbers", spec := "builtNumbers", inPlace := ["internal/bytealg.IndexByteString", "internal/abi.NoEscape", "internal/bytealg.MakeNoZero"], unfollowed := true, recurses := true, apart := false }
def BuiltNumbersSaid : Prop := builtNumbersRow.holds Try.pinned (OpenSpec.ofChange builtNumbersSpec)

/-- ITS FALSE NEIGHBOUR: 'it returns false'. Refute it at one input. -/
def builtNumbersWrong : ChangeSpec := { name := "builtNumbers", fn := fun _ => fun
  | [d1, d2, d3] => { results := [.lit (.bool false)], args := [d1, d2, d3] }
  | _ => none }
def BuiltNumbersWrongFalsely : Prop := builtNumbersRow.holds Try.pinned (OpenSpec.ofChange builtNumbersWrong)

/-- 'conchlaw16.BuiltSets': WHATEVER THE INPUT: true; the input reads as it did. -/
def builtSetsSpec : ChangeSpec := { name := "builtSets", fn := fun _ => fun
  | [d1, d2, d3] => { results := [.lit (.bool true)], args := [d1, d2, d3] }
  | _ => none }
def builtSetsRow : OpenClaim := { program := "ytfmhfepcohbbmaa", sum := "98a4d185434ae934eb2285f2a04ef5ec9ae7b9abc3b18ee3c50c2cbfab842eff", func := "conch/conchlaw16.BuiltSets", spec := "builtSets", inPlace := ["internal/bytealg.IndexByteString", "internal/abi.NoEscape", "internal/bytealg.MakeNoZero"], unfollowed := true, recurses := true, apart := false }
def BuiltSetsSaid : Prop := builtSetsRow.holds Try.pinned (OpenSpec.ofChange builtSetsSpec)

/-- ITS FALSE NEIGHBOUR: 'it returns false'. Refute it at one input. -/
def builtSetsWrong : ChangeSpec := { name := "builtSets", fn := fun _ => fun
  | [d1, d2, d3] => { results := [.lit (.bool false)], args := [d1, d2, d3] }
  | _ => none }
def BuiltSetsWrongFalsely : Prop := builtSetsRow.holds Try.pinned (OpenSpec.ofChange builtSetsWrong)

/-- 'conchlaw16.BuiltReads': WHATEVER THE INPUT: true; the input reads as it did. -/
def builtReadsSpec : ChangeSpec := { name := "builtReads", fn := fun _ => fun
  | [d1, d2] => { results := [.lit (.bool true)], args := [d1, d2] }
  | _ => none }
def builtReadsRow : OpenClaim := { program := "ytfmhfepcohbbmaa", sum := "98a4d185434ae934eb2285f2a04ef5ec9ae7b9abc3b18ee3c50c2cbfab842eff", func := "conch/conchlaw16.BuiltReads", spec := "builtReads", inPlace := ["internal/bytealg.IndexByteString", "internal/abi.NoEscape", "internal/bytealg.MakeNoZero"], unfollowed := true, recurses := true, apart := false }
def BuiltReadsSaid : Prop := builtReadsRow.holds Try.pinned (OpenSpec.ofChange builtReadsSpec)

/-- ITS FALSE NEIGHBOUR: 'it returns false'. Refute it at one input. -/
def builtReadsWrong : ChangeSpec := { name := "builtReads", fn := fun _ => fun
  | [d1, d2] => { results := [.lit (.bool false)], args := [d1, d2] }
  | _ => none }
def BuiltReadsWrongFalsely : Prop := builtReadsRow.holds Try.pinned (OpenSpec.ofChange builtReadsWrong)

/-- 'conchlaw16.BuiltExports': WHATEVER THE INPUT: true; the input reads as it did. -/
def builtExportsSpec : ChangeSpec := { name := "builtExports", fn := fun _ => fun
  | [d1, d2] => { results := [.lit (.bool true)], args := [d1, d2] }
  | _ => none }
def builtExportsRow : OpenClaim := { program := "ytfmhfepcohbbmaa", sum := "98a4d185434ae934eb2285f2a04ef5ec9ae7b9abc3b18ee3c50c2cbfab842eff", func := "conch/conchlaw16.BuiltExports", spec := "builtExports", inPlace := ["internal/bytealg.IndexByteString", "internal/abi.NoEscape", "internal/bytealg.MakeNoZero"], unfollowed := true, recurses := true, apart := false }
def BuiltExportsSaid : Prop := builtExportsRow.holds Try.pinned (OpenSpec.ofChange builtExportsSpec)

/-- ITS FALSE NEIGHBOUR: 'it returns false'. Refute it at one input. -/
def builtExportsWrong : ChangeSpec := { name := "builtExports", fn := fun _ => fun
  | [d1, d2] => { results := [.lit (.bool false)], args := [d1, d2] }
  | _ => none }
def BuiltExportsWrongFalsely : Prop := builtExportsRow.holds Try.pinned (OpenSpec.ofChange builtExportsWrong)

/- THE SECOND FORM. 'bulk': how many values and letters a reading holds, each counted each time it is reached (what is shared counts as often as it is met; a slice's spare places count too). A statement '..UptoSaid' is the law's where the arguments, and the package variables that the reading takes, are together of bulk at most 1048576: NARROWER than '..Said'. Prove '..Said' where nothing that the law and all that it calls make is longer than what came in: it says more and counts as full. Else prove '..UptoSaid'. A law counts once. -/
mutual
def uptoBulk {H : Type} : DataW H → Nat
  | .lit (.string bytes) => bytes.length + 1
  | .lit _ => 1
  | .nil => 1
  | .ptr d => uptoBulk d + 1
  | .slice elems spare => uptoBulkAll elems + uptoBulkAll spare + 1
  | .agg parts => uptoBulkAll parts + 1
  | .iface _ d => uptoBulk d + 1
  | .map entries => uptoBulkEntries entries + 1
  | .held _ => 1
def uptoBulkAll {H : Type} : List (DataW H) → Nat
  | [] => 0
  | d :: r => uptoBulk d + uptoBulkAll r
def uptoBulkEntries {H : Type} : List (Lit × DataW H) → Nat
  | [] => 0
  | x :: r => uptoBulkEntry x + uptoBulkEntries r
def uptoBulkEntry {H : Type} : Lit × DataW H → Nat
  | (.string bytes, d) => bytes.length + uptoBulk d + 1
  | (_, d) => uptoBulk d + 1
 end
def uptoSmall : (H : Type) → List (DataW H) → Bool := fun _ ds => decide (uptoBulkAll ds ≤ 1048576)
def OpenSpec.upto (s : _root_.Go.ChangeSpec) : _root_.Go.OpenSpec := { _root_.Go.OpenSpec.ofChange s with cond := some uptoSmall }

/-- 'conchlaw16.BuiltNumbers', WHERE WHAT IT READS IS OF BULK AT MOST 1048576: true; the input reads as it did. -/
def builtNumbersUptoRow : OpenClaim := { program := "ytfmhfepcohbbmaa", sum := "98a4d185434ae934eb2285f2a04ef5ec9ae7b9abc3b18ee3c50c2cbfab842eff", func := "conch/conchlaw16.BuiltNumbers", spec := "builtNumbers", inPlace := ["internal/bytealg.IndexByteString", "internal/abi.NoEscape", "internal/bytealg.MakeNoZero"], unfollowed := true, recurses := true, apart := false, narrowed := true }
def BuiltNumbersUptoSaid : Prop := builtNumbersUptoRow.holds Try.pinned (OpenSpec.upto builtNumbersSpec)

/-- 'conchlaw16.BuiltSets', WHERE WHAT IT READS IS OF BULK AT MOST 1048576: true; the input reads as it did. -/
def builtSetsUptoRow : OpenClaim := { program := "ytfmhfepcohbbmaa", sum := "98a4d185434ae934eb2285f2a04ef5ec9ae7b9abc3b18ee3c50c2cbfab842eff", func := "conch/conchlaw16.BuiltSets", spec := "builtSets", inPlace := ["internal/bytealg.IndexByteString", "internal/abi.NoEscape", "internal/bytealg.MakeNoZero"], unfollowed := true, recurses := true, apart := false, narrowed := true }
def BuiltSetsUptoSaid : Prop := builtSetsUptoRow.holds Try.pinned (OpenSpec.upto builtSetsSpec)

/-- 'conchlaw16.BuiltReads', WHERE WHAT IT READS IS OF BULK AT MOST 1048576: true; the input reads as it did. -/
def builtReadsUptoRow : OpenClaim := { program := "ytfmhfepcohbbmaa", sum := "98a4d185434ae934eb2285f2a04ef5ec9ae7b9abc3b18ee3c50c2cbfab842eff", func := "conch/conchlaw16.BuiltReads", spec := "builtReads", inPlace := ["internal/bytealg.IndexByteString", "internal/abi.NoEscape", "internal/bytealg.MakeNoZero"], unfollowed := true, recurses := true, apart := false, narrowed := true }
def BuiltReadsUptoSaid : Prop := builtReadsUptoRow.holds Try.pinned (OpenSpec.upto builtReadsSpec)

/-- 'conchlaw16.BuiltExports', WHERE WHAT IT READS IS OF BULK AT MOST 1048576: true; the input reads as it did. -/
def builtExportsUptoRow : OpenClaim := { program := "ytfmhfepcohbbmaa", sum := "98a4d185434ae934eb2285f2a04ef5ec9ae7b9abc3b18ee3c50c2cbfab842eff", func := "conch/conchlaw16.BuiltExports", spec := "builtExports", inPlace := ["internal/bytealg.IndexByteString", "internal/abi.NoEscape", "internal/bytealg.MakeNoZero"], unfollowed := true, recurses := true, apart := false, narrowed := true }
def BuiltExportsUptoSaid : Prop := builtExportsUptoRow.holds Try.pinned (OpenSpec.upto builtExportsSpec)

end Rows
end Go.Proofs.Ytfmhfepcohbbmaa
