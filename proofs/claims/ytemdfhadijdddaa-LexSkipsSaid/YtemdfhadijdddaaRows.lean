/-
  No cell of these rows narrows 'for every input' (looked for: loops, veiled, ifaces, maps, wideKeys, modest, calm, conditions, laid).
  DERIVED. THE GIVEN ROWS OF THIS SEAT. 4 by the template 'for every input the law returns true; each argument reads behind the call as it read before'; 0 by the template 'total and deterministic' (their statements: YtemdfhadijdddaaTotals.lean).
  GIVEN WITH THE SEED: the statements are not yours to turn. If you find one false, say at which input.
  Laid BY PROGRAM, IN A SANDBOX (cutbox-rows.mjs): the forced cells as the released guide's own fill.sh prints them over the translation c29e5275aa5de6e5… (all of the seat's roots in one cut). By AI agents, Wed Nov 11 2026. No macro, syntax, notation, axiom, sorry.
-/
import Derived.Test.YtemdfhadijdddaaChecked
import GoSem.Claim
import GoSem.ClaimJoined
import GoSem.ClaimMapViews
import Derived.JoinedTies
import Derived.KernelRfl
namespace Go.Proofs.Ytemdfhadijdddaa
/- THE CELL 'sum', in the pinned program and in every row, IS THE sha256 OF THE DUMP (.gsa) THAT YtemdfhadijdddaaProg.lean LOADS. Nothing in Lean hashes anything: it is a label: what it is worth is what the hold of that sum in a sandbox is worth. -/
noncomputable def Try.pinned : Pinned := { name := "ytemdfhadijdddaa", sum := "c29e5275aa5de6e5b39a3e2774d68e64aa192b32c89276bdca38c2b7057babad", checked := Try.checked }
namespace Rows
def none {H : Type} : Left H := { results := [], args := [] }

/-- 'conchlaw9.LexWords': WHATEVER THE INPUT: true; the input reads as it did. -/
def lexWordsSpec : ChangeSpec := { name := "lexWords", fn := fun _ => fun
  | [d1, d2] => { results := [.lit (.bool true)], args := [d1, d2] }
  | _ => none }
def lexWordsRow : OpenClaim := { program := "ytemdfhadijdddaa", sum := "c29e5275aa5de6e5b39a3e2774d68e64aa192b32c89276bdca38c2b7057babad", func := "conch/conchlaw9.LexWords", spec := "lexWords", inPlace := ["internal/bytealg.IndexByteString"], apart := false }
def LexWordsSaid : Prop := lexWordsRow.holds Try.pinned (OpenSpec.ofChange lexWordsSpec)

/-- ITS FALSE NEIGHBOUR: 'it returns false'. Refute it at one input. -/
def lexWordsWrong : ChangeSpec := { name := "lexWords", fn := fun _ => fun
  | [d1, d2] => { results := [.lit (.bool false)], args := [d1, d2] }
  | _ => none }
def LexWordsWrongFalsely : Prop := lexWordsRow.holds Try.pinned (OpenSpec.ofChange lexWordsWrong)

/-- 'conchlaw9.LexTells': WHATEVER THE INPUT: true; the input reads as it did. -/
def lexTellsSpec : ChangeSpec := { name := "lexTells", fn := fun _ => fun
  | [d1, d2, d3] => { results := [.lit (.bool true)], args := [d1, d2, d3] }
  | _ => none }
def lexTellsRow : OpenClaim := { program := "ytemdfhadijdddaa", sum := "c29e5275aa5de6e5b39a3e2774d68e64aa192b32c89276bdca38c2b7057babad", func := "conch/conchlaw9.LexTells", spec := "lexTells", inPlace := ["internal/bytealg.IndexByteString"], apart := false }
def LexTellsSaid : Prop := lexTellsRow.holds Try.pinned (OpenSpec.ofChange lexTellsSpec)

/-- ITS FALSE NEIGHBOUR: 'it returns false'. Refute it at one input. -/
def lexTellsWrong : ChangeSpec := { name := "lexTells", fn := fun _ => fun
  | [d1, d2, d3] => { results := [.lit (.bool false)], args := [d1, d2, d3] }
  | _ => none }
def LexTellsWrongFalsely : Prop := lexTellsRow.holds Try.pinned (OpenSpec.ofChange lexTellsWrong)

/-- 'conchlaw9.LexOps': WHATEVER THE INPUT: true; the input reads as it did. -/
def lexOpsSpec : ChangeSpec := { name := "lexOps", fn := fun _ => fun
  | [d1, d2] => { results := [.lit (.bool true)], args := [d1, d2] }
  | _ => none }
def lexOpsRow : OpenClaim := { program := "ytemdfhadijdddaa", sum := "c29e5275aa5de6e5b39a3e2774d68e64aa192b32c89276bdca38c2b7057babad", func := "conch/conchlaw9.LexOps", spec := "lexOps", inPlace := ["internal/bytealg.IndexByteString"], apart := false }
def LexOpsSaid : Prop := lexOpsRow.holds Try.pinned (OpenSpec.ofChange lexOpsSpec)

/-- ITS FALSE NEIGHBOUR: 'it returns false'. Refute it at one input. -/
def lexOpsWrong : ChangeSpec := { name := "lexOps", fn := fun _ => fun
  | [d1, d2] => { results := [.lit (.bool false)], args := [d1, d2] }
  | _ => none }
def LexOpsWrongFalsely : Prop := lexOpsRow.holds Try.pinned (OpenSpec.ofChange lexOpsWrong)

/-- 'conchlaw9.LexSkips': WHATEVER THE INPUT: true; the input reads as it did. -/
def lexSkipsSpec : ChangeSpec := { name := "lexSkips", fn := fun _ => fun
  | [d1, d2, d3] => { results := [.lit (.bool true)], args := [d1, d2, d3] }
  | _ => none }
def lexSkipsRow : OpenClaim := { program := "ytemdfhadijdddaa", sum := "c29e5275aa5de6e5b39a3e2774d68e64aa192b32c89276bdca38c2b7057babad", func := "conch/conchlaw9.LexSkips", spec := "lexSkips", inPlace := ["internal/bytealg.IndexByteString"], apart := false }
def LexSkipsSaid : Prop := lexSkipsRow.holds Try.pinned (OpenSpec.ofChange lexSkipsSpec)

/-- ITS FALSE NEIGHBOUR: 'it returns false'. Refute it at one input. -/
def lexSkipsWrong : ChangeSpec := { name := "lexSkips", fn := fun _ => fun
  | [d1, d2, d3] => { results := [.lit (.bool false)], args := [d1, d2, d3] }
  | _ => none }
def LexSkipsWrongFalsely : Prop := lexSkipsRow.holds Try.pinned (OpenSpec.ofChange lexSkipsWrong)

/- THE SECOND FORM. 'bulk': how many values and letters a reading holds, each counted each time it is reached (what is shared counts as often as it is met; a slice's spare places count too). A statement '..UptoSaid' is the law's where the arguments, and the package variables that the reading takes, are together of bulk at most 1048576: NARROWER than '..Said'. Prove '..Said' where nothing that the law and all that it calls make is longer than what came in: it says more and counts as full. Else prove '..UptoSaid'. A law counts once. -/
mutual
def uptoBulk {H : Type} : DataW H → Nat
  | .lit (.string bytes) => bytes.length + 1
  | .lit _ => 1
  | .nil => 1
  | .ptr d => uptoBulk d + 1
  | .slice elems spare => uptoBulkAll elems + uptoBulkAll spare + 1
  | .agg parts => uptoBulkAll parts + 1
  | .iface _ d => uptoBulk d + 1
  | .map entries => uptoBulkEntries entries + 1
  | .held _ => 1
def uptoBulkAll {H : Type} : List (DataW H) → Nat
  | [] => 0
  | d :: r => uptoBulk d + uptoBulkAll r
def uptoBulkEntries {H : Type} : List (Lit × DataW H) → Nat
  | [] => 0
  | x :: r => uptoBulkEntry x + uptoBulkEntries r
def uptoBulkEntry {H : Type} : Lit × DataW H → Nat
  | (.string bytes, d) => bytes.length + uptoBulk d + 1
  | (_, d) => uptoBulk d + 1
 end
def uptoSmall : (H : Type) → List (DataW H) → Bool := fun _ ds => decide (uptoBulkAll ds ≤ 1048576)
def OpenSpec.upto (s : _root_.Go.ChangeSpec) : _root_.Go.OpenSpec := { _root_.Go.OpenSpec.ofChange s with cond := some uptoSmall }

/-- 'conchlaw9.LexWords', WHERE WHAT IT READS IS OF BULK AT MOST 1048576: true; the input reads as it did. -/
def lexWordsUptoRow : OpenClaim := { program := "ytemdfhadijdddaa", sum := "c29e5275aa5de6e5b39a3e2774d68e64aa192b32c89276bdca38c2b7057babad", func := "conch/conchlaw9.LexWords", spec := "lexWords", inPlace := ["internal/bytealg.IndexByteString"], apart := false, narrowed := true }
def LexWordsUptoSaid : Prop := lexWordsUptoRow.holds Try.pinned (OpenSpec.upto lexWordsSpec)

/-- 'conchlaw9.LexTells', WHERE WHAT IT READS IS OF BULK AT MOST 1048576: true; the input reads as it did. -/
def lexTellsUptoRow : OpenClaim := { program := "ytemdfhadijdddaa", sum := "c29e5275aa5de6e5b39a3e2774d68e64aa192b32c89276bdca38c2b7057babad", func := "conch/conchlaw9.LexTells", spec := "lexTells", inPlace := ["internal/bytealg.IndexByteString"], apart := false, narrowed := true }
def LexTellsUptoSaid : Prop := lexTellsUptoRow.holds Try.pinned (OpenSpec.upto lexTellsSpec)

/-- 'conchlaw9.LexOps', WHERE WHAT IT READS IS OF BULK AT MOST 1048576: true; the input reads as it did. -/
def lexOpsUptoRow : OpenClaim := { program := "ytemdfhadijdddaa", sum := "c29e5275aa5de6e5b39a3e2774d68e64aa192b32c89276bdca38c2b7057babad", func := "conch/conchlaw9.LexOps", spec := "lexOps", inPlace := ["internal/bytealg.IndexByteString"], apart := false, narrowed := true }
def LexOpsUptoSaid : Prop := lexOpsUptoRow.holds Try.pinned (OpenSpec.upto lexOpsSpec)

/-- 'conchlaw9.LexSkips', WHERE WHAT IT READS IS OF BULK AT MOST 1048576: true; the input reads as it did. -/
def lexSkipsUptoRow : OpenClaim := { program := "ytemdfhadijdddaa", sum := "c29e5275aa5de6e5b39a3e2774d68e64aa192b32c89276bdca38c2b7057babad", func := "conch/conchlaw9.LexSkips", spec := "lexSkips", inPlace := ["internal/bytealg.IndexByteString"], apart := false, narrowed := true }
def LexSkipsUptoSaid : Prop := lexSkipsUptoRow.holds Try.pinned (OpenSpec.upto lexSkipsSpec)

end Rows
end Go.Proofs.Ytemdfhadijdddaa
