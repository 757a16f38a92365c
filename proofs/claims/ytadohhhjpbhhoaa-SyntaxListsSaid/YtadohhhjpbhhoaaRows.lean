/-
  No cell of these rows narrows 'for every input' (looked for: loops, veiled, ifaces, maps, wideKeys, modest, calm, conditions, laid).
  DERIVED. THE GIVEN ROWS OF THIS SEAT. 8 by the template 'for every input the law returns true; each argument reads behind the call as it read before'; 0 by the template 'total and deterministic' (their statements: YtadohhhjpbhhoaaTotals.lean).
  GIVEN WITH THE SEED: the statements are not yours to turn. If you find one false, say at which input.
  Laid BY PROGRAM, IN A SANDBOX (cutbox-rows.mjs): the forced cells as the released guide's own fill.sh prints them over the translation 9611fbaa047bc043… (all of the seat's roots in one cut). By AI agents, Wed Nov 11 2026. No macro, syntax, notation, axiom, sorry.
-/
import Derived.Test.YtadohhhjpbhhoaaChecked
import GoSem.Claim
import GoSem.ClaimJoined
import GoSem.ClaimMapViews
import Derived.JoinedTies
import Derived.KernelRfl
namespace Go.Proofs.Ytadohhhjpbhhoaa
/- THE CELL 'sum', in the pinned program and in every row, IS THE sha256 OF THE DUMP (.gsa) THAT YtadohhhjpbhhoaaProg.lean LOADS. Nothing in Lean hashes anything: it is a label: what it is worth is what the hold of that sum in a sandbox is worth. -/
noncomputable def Try.pinned : Pinned := { name := "ytadohhhjpbhhoaa", sum := "9611fbaa047bc0435479f849cee7c966fecb6d65709424d77b4c9d4cef4869ce", checked := Try.checked }
namespace Rows
def none {H : Type} : Left H := { results := [], args := [] }

/-- 'conchlaw10.SyntaxVars': WHATEVER THE INPUT: true; the input reads as it did. -/
def syntaxVarsSpec : ChangeSpec := { name := "syntaxVars", fn := fun _ => fun
  | [d1, d2, d3] => { results := [.lit (.bool true)], args := [d1, d2, d3] }
  | _ => none }
def syntaxVarsRow : OpenClaim := { program := "ytadohhhjpbhhoaa", sum := "9611fbaa047bc0435479f849cee7c966fecb6d65709424d77b4c9d4cef4869ce", func := "conch/conchlaw10.SyntaxVars", spec := "syntaxVars", inPlace := ["internal/bytealg.IndexByteString"], unfollowed := true, recurses := true, apart := false }
def SyntaxVarsSaid : Prop := syntaxVarsRow.holds Try.pinned (OpenSpec.ofChange syntaxVarsSpec)

/-- ITS FALSE NEIGHBOUR: 'it returns false'. Refute it at one input. -/
def syntaxVarsWrong : ChangeSpec := { name := "syntaxVars", fn := fun _ => fun
  | [d1, d2, d3] => { results := [.lit (.bool false)], args := [d1, d2, d3] }
  | _ => none }
def SyntaxVarsWrongFalsely : Prop := syntaxVarsRow.holds Try.pinned (OpenSpec.ofChange syntaxVarsWrong)

/-- 'conchlaw10.SyntaxSimple': WHATEVER THE INPUT: true; the input reads as it did. -/
def syntaxSimpleSpec : ChangeSpec := { name := "syntaxSimple", fn := fun _ => fun
  | [d] => { results := [.lit (.bool true)], args := [d] }
  | _ => none }
def syntaxSimpleRow : OpenClaim := { program := "ytadohhhjpbhhoaa", sum := "9611fbaa047bc0435479f849cee7c966fecb6d65709424d77b4c9d4cef4869ce", func := "conch/conchlaw10.SyntaxSimple", spec := "syntaxSimple", inPlace := ["internal/bytealg.IndexByteString"], unfollowed := true, recurses := true, apart := false }
def SyntaxSimpleSaid : Prop := syntaxSimpleRow.holds Try.pinned (OpenSpec.ofChange syntaxSimpleSpec)

/-- ITS FALSE NEIGHBOUR: 'it returns false'. Refute it at one input. -/
def syntaxSimpleWrong : ChangeSpec := { name := "syntaxSimple", fn := fun _ => fun
  | [d] => { results := [.lit (.bool false)], args := [d] }
  | _ => none }
def SyntaxSimpleWrongFalsely : Prop := syntaxSimpleRow.holds Try.pinned (OpenSpec.ofChange syntaxSimpleWrong)

/-- 'conchlaw10.SyntaxLists': WHATEVER THE INPUT: true; the input reads as it did. -/
def syntaxListsSpec : ChangeSpec := { name := "syntaxLists", fn := fun _ => fun
  | [d] => { results := [.lit (.bool true)], args := [d] }
  | _ => none }
def syntaxListsRow : OpenClaim := { program := "ytadohhhjpbhhoaa", sum := "9611fbaa047bc0435479f849cee7c966fecb6d65709424d77b4c9d4cef4869ce", func := "conch/conchlaw10.SyntaxLists", spec := "syntaxLists", inPlace := ["internal/bytealg.IndexByteString"], unfollowed := true, recurses := true, apart := false }
def SyntaxListsSaid : Prop := syntaxListsRow.holds Try.pinned (OpenSpec.ofChange syntaxListsSpec)

/-- ITS FALSE NEIGHBOUR: 'it returns false'. Refute it at one input. -/
def syntaxListsWrong : ChangeSpec := { name := "syntaxLists", fn := fun _ => fun
  | [d] => { results := [.lit (.bool false)], args := [d] }
  | _ => none }
def SyntaxListsWrongFalsely : Prop := syntaxListsRow.holds Try.pinned (OpenSpec.ofChange syntaxListsWrong)

/-- 'conchlaw10.SyntaxPlaces': WHATEVER THE INPUT: true; the input reads as it did. -/
def syntaxPlacesSpec : ChangeSpec := { name := "syntaxPlaces", fn := fun _ => fun
  | [d] => { results := [.lit (.bool true)], args := [d] }
  | _ => none }
def syntaxPlacesRow : OpenClaim := { program := "ytadohhhjpbhhoaa", sum := "9611fbaa047bc0435479f849cee7c966fecb6d65709424d77b4c9d4cef4869ce", func := "conch/conchlaw10.SyntaxPlaces", spec := "syntaxPlaces", inPlace := ["internal/bytealg.IndexByteString"], unfollowed := true, recurses := true, apart := false }
def SyntaxPlacesSaid : Prop := syntaxPlacesRow.holds Try.pinned (OpenSpec.ofChange syntaxPlacesSpec)

/-- ITS FALSE NEIGHBOUR: 'it returns false'. Refute it at one input. -/
def syntaxPlacesWrong : ChangeSpec := { name := "syntaxPlaces", fn := fun _ => fun
  | [d] => { results := [.lit (.bool false)], args := [d] }
  | _ => none }
def SyntaxPlacesWrongFalsely : Prop := syntaxPlacesRow.holds Try.pinned (OpenSpec.ofChange syntaxPlacesWrong)

/-- 'conchlaw10.SyntaxLayout': WHATEVER THE INPUT: true; the input reads as it did. -/
def syntaxLayoutSpec : ChangeSpec := { name := "syntaxLayout", fn := fun _ => fun
  | [d1, d2, d3] => { results := [.lit (.bool true)], args := [d1, d2, d3] }
  | _ => none }
def syntaxLayoutRow : OpenClaim := { program := "ytadohhhjpbhhoaa", sum := "9611fbaa047bc0435479f849cee7c966fecb6d65709424d77b4c9d4cef4869ce", func := "conch/conchlaw10.SyntaxLayout", spec := "syntaxLayout", inPlace := ["internal/bytealg.IndexByteString"], unfollowed := true, recurses := true, apart := false }
def SyntaxLayoutSaid : Prop := syntaxLayoutRow.holds Try.pinned (OpenSpec.ofChange syntaxLayoutSpec)

/-- ITS FALSE NEIGHBOUR: 'it returns false'. Refute it at one input. -/
def syntaxLayoutWrong : ChangeSpec := { name := "syntaxLayout", fn := fun _ => fun
  | [d1, d2, d3] => { results := [.lit (.bool false)], args := [d1, d2, d3] }
  | _ => none }
def SyntaxLayoutWrongFalsely : Prop := syntaxLayoutRow.holds Try.pinned (OpenSpec.ofChange syntaxLayoutWrong)

/-- 'conchlaw10.SyntaxDeep': WHATEVER THE INPUT: true; the input reads as it did. -/
def syntaxDeepSpec : ChangeSpec := { name := "syntaxDeep", fn := fun _ => fun
  | [d1, d2] => { results := [.lit (.bool true)], args := [d1, d2] }
  | _ => none }
def syntaxDeepRow : OpenClaim := { program := "ytadohhhjpbhhoaa", sum := "9611fbaa047bc0435479f849cee7c966fecb6d65709424d77b4c9d4cef4869ce", func := "conch/conchlaw10.SyntaxDeep", spec := "syntaxDeep", inPlace := ["internal/bytealg.IndexByteString"], unfollowed := true, recurses := true, apart := false }
def SyntaxDeepSaid : Prop := syntaxDeepRow.holds Try.pinned (OpenSpec.ofChange syntaxDeepSpec)

/-- ITS FALSE NEIGHBOUR: 'it returns false'. Refute it at one input. -/
def syntaxDeepWrong : ChangeSpec := { name := "syntaxDeep", fn := fun _ => fun
  | [d1, d2] => { results := [.lit (.bool false)], args := [d1, d2] }
  | _ => none }
def SyntaxDeepWrongFalsely : Prop := syntaxDeepRow.holds Try.pinned (OpenSpec.ofChange syntaxDeepWrong)

/-- 'conchlaw10.SyntaxRefuses': WHATEVER THE INPUT: true; the input reads as it did. -/
def syntaxRefusesSpec : ChangeSpec := { name := "syntaxRefuses", fn := fun _ => fun
  | [d] => { results := [.lit (.bool true)], args := [d] }
  | _ => none }
def syntaxRefusesRow : OpenClaim := { program := "ytadohhhjpbhhoaa", sum := "9611fbaa047bc0435479f849cee7c966fecb6d65709424d77b4c9d4cef4869ce", func := "conch/conchlaw10.SyntaxRefuses", spec := "syntaxRefuses", inPlace := ["internal/bytealg.IndexByteString"], unfollowed := true, recurses := true, apart := false }
def SyntaxRefusesSaid : Prop := syntaxRefusesRow.holds Try.pinned (OpenSpec.ofChange syntaxRefusesSpec)

/-- ITS FALSE NEIGHBOUR: 'it returns false'. Refute it at one input. -/
def syntaxRefusesWrong : ChangeSpec := { name := "syntaxRefuses", fn := fun _ => fun
  | [d] => { results := [.lit (.bool false)], args := [d] }
  | _ => none }
def SyntaxRefusesWrongFalsely : Prop := syntaxRefusesRow.holds Try.pinned (OpenSpec.ofChange syntaxRefusesWrong)

/-- 'conchlaw10.SyntaxLong': WHATEVER THE INPUT: true; the input reads as it did. -/
def syntaxLongSpec : ChangeSpec := { name := "syntaxLong", fn := fun _ => fun
  | [d] => { results := [.lit (.bool true)], args := [d] }
  | _ => none }
def syntaxLongRow : OpenClaim := { program := "ytadohhhjpbhhoaa", sum := "9611fbaa047bc0435479f849cee7c966fecb6d65709424d77b4c9d4cef4869ce", func := "conch/conchlaw10.SyntaxLong", spec := "syntaxLong", inPlace := ["internal/bytealg.IndexByteString"], unfollowed := true, recurses := true, apart := false }
def SyntaxLongSaid : Prop := syntaxLongRow.holds Try.pinned (OpenSpec.ofChange syntaxLongSpec)

/-- ITS FALSE NEIGHBOUR: 'it returns false'. Refute it at one input. -/
def syntaxLongWrong : ChangeSpec := { name := "syntaxLong", fn := fun _ => fun
  | [d] => { results := [.lit (.bool false)], args := [d] }
  | _ => none }
def SyntaxLongWrongFalsely : Prop := syntaxLongRow.holds Try.pinned (OpenSpec.ofChange syntaxLongWrong)

/- THE SECOND FORM. 'bulk': how many values and letters a reading holds, each counted each time it is reached (what is shared counts as often as it is met; a slice's spare places count too). A statement '..UptoSaid' is the law's where the arguments, and the package variables that the reading takes, are together of bulk at most 1048576: NARROWER than '..Said'. Prove '..Said' where nothing that the law and all that it calls make is longer than what came in: it says more and counts as full. Else prove '..UptoSaid'. A law counts once. -/
mutual
def uptoBulk {H : Type} : DataW H → Nat
  | .lit (.string bytes) => bytes.length + 1
  | .lit _ => 1
  | .nil => 1
  | .ptr d => uptoBulk d + 1
  | .slice elems spare => uptoBulkAll elems + uptoBulkAll spare + 1
  | .agg parts => uptoBulkAll parts + 1
  | .iface _ d => uptoBulk d + 1
  | .map entries => uptoBulkEntries entries + 1
  | .held _ => 1
def uptoBulkAll {H : Type} : List (DataW H) → Nat
  | [] => 0
  | d :: r => uptoBulk d + uptoBulkAll r
def uptoBulkEntries {H : Type} : List (Lit × DataW H) → Nat
  | [] => 0
  | x :: r => uptoBulkEntry x + uptoBulkEntries r
def uptoBulkEntry {H : Type} : Lit × DataW H → Nat
  | (.string bytes, d) => bytes.length + uptoBulk d + 1
  | (_, d) => uptoBulk d + 1
 end
def uptoSmall : (H : Type) → List (DataW H) → Bool := fun _ ds => decide (uptoBulkAll ds ≤ 1048576)
def OpenSpec.upto (s : _root_.Go.ChangeSpec) : _root_.Go.OpenSpec := { _root_.Go.OpenSpec.ofChange s with cond := some uptoSmall }

/-- 'conchlaw10.SyntaxVars', WHERE WHAT IT READS IS OF BULK AT MOST 1048576: true; the input reads as it did. -/
def syntaxVarsUptoRow : OpenClaim := { program := "ytadohhhjpbhhoaa", sum := "9611fbaa047bc0435479f849cee7c966fecb6d65709424d77b4c9d4cef4869ce", func := "conch/conchlaw10.SyntaxVars", spec := "syntaxVars", inPlace := ["internal/bytealg.IndexByteString"], unfollowed := true, recurses := true, apart := false, narrowed := true }
def SyntaxVarsUptoSaid : Prop := syntaxVarsUptoRow.holds Try.pinned (OpenSpec.upto syntaxVarsSpec)

/-- 'conchlaw10.SyntaxSimple', WHERE WHAT IT READS IS OF BULK AT MOST 1048576: true; the input reads as it did. -/
def syntaxSimpleUptoRow : OpenClaim := { program := "ytadohhhjpbhhoaa", sum := "9611fbaa047bc0435479f849cee7c966fecb6d65709424d77b4c9d4cef4869ce", func := "conch/conchlaw10.SyntaxSimple", spec := "syntaxSimple", inPlace := ["internal/bytealg.IndexByteString"], unfollowed := true, recurses := true, apart := false, narrowed := true }
def SyntaxSimpleUptoSaid : Prop := syntaxSimpleUptoRow.holds Try.pinned (OpenSpec.upto syntaxSimpleSpec)

/-- 'conchlaw10.SyntaxLists', WHERE WHAT IT READS IS OF BULK AT MOST 1048576: true; the input reads as it did. -/
def syntaxListsUptoRow : OpenClaim := { program := "ytadohhhjpbhhoaa", sum := "9611fbaa047bc0435479f849cee7c966fecb6d65709424d77b4c9d4cef4869ce", func := "conch/conchlaw10.SyntaxLists", spec := "syntaxLists", inPlace := ["internal/bytealg.IndexByteString"], unfollowed := true, recurses := true, apart := false, narrowed := true }
def SyntaxListsUptoSaid : Prop := syntaxListsUptoRow.holds Try.pinned (OpenSpec.upto syntaxListsSpec)

/-- 'conchlaw10.SyntaxPlaces', WHERE WHAT IT READS IS OF BULK AT MOST 1048576: true; the input reads as it did. -/
def syntaxPlacesUptoRow : OpenClaim := { program := "ytadohhhjpbhhoaa", sum := "9611fbaa047bc0435479f849cee7c966fecb6d65709424d77b4c9d4cef4869ce", func := "conch/conchlaw10.SyntaxPlaces", spec := "syntaxPlaces", inPlace := ["internal/bytealg.IndexByteString"], unfollowed := true, recurses := true, apart := false, narrowed := true }
def SyntaxPlacesUptoSaid : Prop := syntaxPlacesUptoRow.holds Try.pinned (OpenSpec.upto syntaxPlacesSpec)

/-- 'conchlaw10.SyntaxLayout', WHERE WHAT IT READS IS OF BULK AT MOST 1048576: true; the input reads as it did. -/
def syntaxLayoutUptoRow : OpenClaim := { program := "ytadohhhjpbhhoaa", sum := "9611fbaa047bc0435479f849cee7c966fecb6d65709424d77b4c9d4cef4869ce", func := "conch/conchlaw10.SyntaxLayout", spec := "syntaxLayout", inPlace := ["internal/bytealg.IndexByteString"], unfollowed := true, recurses := true, apart := false, narrowed := true }
def SyntaxLayoutUptoSaid : Prop := syntaxLayoutUptoRow.holds Try.pinned (OpenSpec.upto syntaxLayoutSpec)

/-- 'conchlaw10.SyntaxDeep', WHERE WHAT IT READS IS OF BULK AT MOST 1048576: true; the input reads as it did. -/
def syntaxDeepUptoRow : OpenClaim := { program := "ytadohhhjpbhhoaa", sum := "9611fbaa047bc0435479f849cee7c966fecb6d65709424d77b4c9d4cef4869ce", func := "conch/conchlaw10.SyntaxDeep", spec := "syntaxDeep", inPlace := ["internal/bytealg.IndexByteString"], unfollowed := true, recurses := true, apart := false, narrowed := true }
def SyntaxDeepUptoSaid : Prop := syntaxDeepUptoRow.holds Try.pinned (OpenSpec.upto syntaxDeepSpec)

/-- 'conchlaw10.SyntaxRefuses', WHERE WHAT IT READS IS OF BULK AT MOST 1048576: true; the input reads as it did. -/
def syntaxRefusesUptoRow : OpenClaim := { program := "ytadohhhjpbhhoaa", sum := "9611fbaa047bc0435479f849cee7c966fecb6d65709424d77b4c9d4cef4869ce", func := "conch/conchlaw10.SyntaxRefuses", spec := "syntaxRefuses", inPlace := ["internal/bytealg.IndexByteString"], unfollowed := true, recurses := true, apart := false, narrowed := true }
def SyntaxRefusesUptoSaid : Prop := syntaxRefusesUptoRow.holds Try.pinned (OpenSpec.upto syntaxRefusesSpec)

/-- 'conchlaw10.SyntaxLong', WHERE WHAT IT READS IS OF BULK AT MOST 1048576: true; the input reads as it did. -/
def syntaxLongUptoRow : OpenClaim := { program := "ytadohhhjpbhhoaa", sum := "9611fbaa047bc0435479f849cee7c966fecb6d65709424d77b4c9d4cef4869ce", func := "conch/conchlaw10.SyntaxLong", spec := "syntaxLong", inPlace := ["internal/bytealg.IndexByteString"], unfollowed := true, recurses := true, apart := false, narrowed := true }
def SyntaxLongUptoSaid : Prop := syntaxLongUptoRow.holds Try.pinned (OpenSpec.upto syntaxLongSpec)

end Rows
end Go.Proofs.Ytadohhhjpbhhoaa
