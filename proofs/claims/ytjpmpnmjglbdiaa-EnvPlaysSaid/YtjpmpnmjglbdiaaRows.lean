/-
  No cell of these rows narrows 'for every input' (looked for: loops, veiled, ifaces, maps, wideKeys, modest, calm, conditions, laid).
  DERIVED. THE GIVEN ROWS OF THIS SEAT. 4 by the template 'for every input the law returns true; each argument reads behind the call as it read before'; 0 by the template 'total and deterministic' (their statements: YtjpmpnmjglbdiaaTotals.lean).
  GIVEN WITH THE SEED: the statements are not yours to turn. If you find one false, say at which input.
  Laid BY PROGRAM, IN A SANDBOX (cutbox-rows.mjs): the forced cells as the released guide's own fill.sh prints them over the translation e3d0637af9309f8f… (all of the seat's roots in one cut). By AI agents, Wed Nov 11 2026. No macro, syntax, notation, axiom, sorry.
-/
import Derived.Test.YtjpmpnmjglbdiaaChecked
import GoSem.Claim
import GoSem.ClaimJoined
import GoSem.ClaimMapViews
import Derived.JoinedTies
import Derived.KernelRfl
namespace Go.Proofs.Ytjpmpnmjglbdiaa
/- THE CELL 'sum', in the pinned program and in every row, IS THE sha256 OF THE DUMP (.gsa) THAT YtjpmpnmjglbdiaaProg.lean LOADS. Nothing in Lean hashes anything: it is a label: what it is worth is what the hold of that sum in a sandbox is worth. -/
noncomputable def Try.pinned : Pinned := { name := "ytjpmpnmjglbdiaa", sum := "e3d0637af9309f8f1e69a1e0691d98da82b87a701c46a61766c4ba8dd6e464b7", checked := Try.checked }
namespace Rows
def none {H : Type} : Left H := { results := [], args := [] }

/-- 'conchlaw13.EnvArgs': WHATEVER THE INPUT: true; the input reads as it did. -/
def envArgsSpec : ChangeSpec := { name := "envArgs", fn := fun _ => fun
  | [d1, d2] => { results := [.lit (.bool true)], args := [d1, d2] }
  | _ => none }
def envArgsRow : OpenClaim := { program := "ytjpmpnmjglbdiaa", sum := "e3d0637af9309f8f1e69a1e0691d98da82b87a701c46a61766c4ba8dd6e464b7", func := "conch/conchlaw13.EnvArgs", spec := "envArgs", inPlace := ["internal/bytealg.IndexByteString"], apart := false }
def EnvArgsSaid : Prop := envArgsRow.holds Try.pinned (OpenSpec.ofChange envArgsSpec)

/-- ITS FALSE NEIGHBOUR: 'it returns false'. Refute it at one input. -/
def envArgsWrong : ChangeSpec := { name := "envArgs", fn := fun _ => fun
  | [d1, d2] => { results := [.lit (.bool false)], args := [d1, d2] }
  | _ => none }
def EnvArgsWrongFalsely : Prop := envArgsRow.holds Try.pinned (OpenSpec.ofChange envArgsWrong)

/-- 'conchlaw13.EnvRises': WHATEVER THE INPUT: true; the input reads as it did. -/
def envRisesSpec : ChangeSpec := { name := "envRises", fn := fun _ => fun
  | [d] => { results := [.lit (.bool true)], args := [d] }
  | _ => none }
def envRisesRow : OpenClaim := { program := "ytjpmpnmjglbdiaa", sum := "e3d0637af9309f8f1e69a1e0691d98da82b87a701c46a61766c4ba8dd6e464b7", func := "conch/conchlaw13.EnvRises", spec := "envRises", inPlace := ["internal/bytealg.IndexByteString"], unfollowed := true, recurses := true, apart := false }
def EnvRisesSaid : Prop := envRisesRow.holds Try.pinned (OpenSpec.ofChange envRisesSpec)

/-- ITS FALSE NEIGHBOUR: 'it returns false'. Refute it at one input. -/
def envRisesWrong : ChangeSpec := { name := "envRises", fn := fun _ => fun
  | [d] => { results := [.lit (.bool false)], args := [d] }
  | _ => none }
def EnvRisesWrongFalsely : Prop := envRisesRow.holds Try.pinned (OpenSpec.ofChange envRisesWrong)

/-- 'conchlaw13.EnvBounds': WHATEVER THE INPUT: true; the input reads as it did. -/
def envBoundsSpec : ChangeSpec := { name := "envBounds", fn := fun _ => fun
  | [d1, d2] => { results := [.lit (.bool true)], args := [d1, d2] }
  | _ => none }
def envBoundsRow : OpenClaim := { program := "ytjpmpnmjglbdiaa", sum := "e3d0637af9309f8f1e69a1e0691d98da82b87a701c46a61766c4ba8dd6e464b7", func := "conch/conchlaw13.EnvBounds", spec := "envBounds", inPlace := ["internal/bytealg.IndexByteString"], unfollowed := true, recurses := true, apart := false }
def EnvBoundsSaid : Prop := envBoundsRow.holds Try.pinned (OpenSpec.ofChange envBoundsSpec)

/-- ITS FALSE NEIGHBOUR: 'it returns false'. Refute it at one input. -/
def envBoundsWrong : ChangeSpec := { name := "envBounds", fn := fun _ => fun
  | [d1, d2] => { results := [.lit (.bool false)], args := [d1, d2] }
  | _ => none }
def EnvBoundsWrongFalsely : Prop := envBoundsRow.holds Try.pinned (OpenSpec.ofChange envBoundsWrong)

/-- 'conchlaw13.EnvPlays': WHATEVER THE INPUT: true; the input reads as it did. -/
def envPlaysSpec : ChangeSpec := { name := "envPlays", fn := fun _ => fun
  | [d1, d2, d3] => { results := [.lit (.bool true)], args := [d1, d2, d3] }
  | _ => none }
def envPlaysRow : OpenClaim := { program := "ytjpmpnmjglbdiaa", sum := "e3d0637af9309f8f1e69a1e0691d98da82b87a701c46a61766c4ba8dd6e464b7", func := "conch/conchlaw13.EnvPlays", spec := "envPlays", inPlace := ["internal/bytealg.IndexByteString", "maps.clone"], unfollowed := true, recurses := true, apart := false }
def EnvPlaysSaid : Prop := envPlaysRow.holds Try.pinned (OpenSpec.ofChange envPlaysSpec)

/-- ITS FALSE NEIGHBOUR: 'it returns false'. Refute it at one input. -/
def envPlaysWrong : ChangeSpec := { name := "envPlays", fn := fun _ => fun
  | [d1, d2, d3] => { results := [.lit (.bool false)], args := [d1, d2, d3] }
  | _ => none }
def EnvPlaysWrongFalsely : Prop := envPlaysRow.holds Try.pinned (OpenSpec.ofChange envPlaysWrong)

/- THE SECOND FORM. 'bulk': how many values and letters a reading holds, each counted each time it is reached (what is shared counts as often as it is met; a slice's spare places count too). A statement '..UptoSaid' is the law's where the arguments, and the package variables that the reading takes, are together of bulk at most 1048576: NARROWER than '..Said'. Prove '..Said' where nothing that the law and all that it calls make is longer than what came in: it says more and counts as full. Else prove '..UptoSaid'. A law counts once. -/
mutual
def uptoBulk {H : Type} : DataW H → Nat
  | .lit (.string bytes) => bytes.length + 1
  | .lit _ => 1
  | .nil => 1
  | .ptr d => uptoBulk d + 1
  | .slice elems spare => uptoBulkAll elems + uptoBulkAll spare + 1
  | .agg parts => uptoBulkAll parts + 1
  | .iface _ d => uptoBulk d + 1
  | .map entries => uptoBulkEntries entries + 1
  | .held _ => 1
def uptoBulkAll {H : Type} : List (DataW H) → Nat
  | [] => 0
  | d :: r => uptoBulk d + uptoBulkAll r
def uptoBulkEntries {H : Type} : List (Lit × DataW H) → Nat
  | [] => 0
  | x :: r => uptoBulkEntry x + uptoBulkEntries r
def uptoBulkEntry {H : Type} : Lit × DataW H → Nat
  | (.string bytes, d) => bytes.length + uptoBulk d + 1
  | (_, d) => uptoBulk d + 1
 end
def uptoSmall : (H : Type) → List (DataW H) → Bool := fun _ ds => decide (uptoBulkAll ds ≤ 1048576)
def OpenSpec.upto (s : _root_.Go.ChangeSpec) : _root_.Go.OpenSpec := { _root_.Go.OpenSpec.ofChange s with cond := some uptoSmall }

/-- 'conchlaw13.EnvArgs', WHERE WHAT IT READS IS OF BULK AT MOST 1048576: true; the input reads as it did. -/
def envArgsUptoRow : OpenClaim := { program := "ytjpmpnmjglbdiaa", sum := "e3d0637af9309f8f1e69a1e0691d98da82b87a701c46a61766c4ba8dd6e464b7", func := "conch/conchlaw13.EnvArgs", spec := "envArgs", inPlace := ["internal/bytealg.IndexByteString"], apart := false, narrowed := true }
def EnvArgsUptoSaid : Prop := envArgsUptoRow.holds Try.pinned (OpenSpec.upto envArgsSpec)

/-- 'conchlaw13.EnvRises', WHERE WHAT IT READS IS OF BULK AT MOST 1048576: true; the input reads as it did. -/
def envRisesUptoRow : OpenClaim := { program := "ytjpmpnmjglbdiaa", sum := "e3d0637af9309f8f1e69a1e0691d98da82b87a701c46a61766c4ba8dd6e464b7", func := "conch/conchlaw13.EnvRises", spec := "envRises", inPlace := ["internal/bytealg.IndexByteString"], unfollowed := true, recurses := true, apart := false, narrowed := true }
def EnvRisesUptoSaid : Prop := envRisesUptoRow.holds Try.pinned (OpenSpec.upto envRisesSpec)

/-- 'conchlaw13.EnvBounds', WHERE WHAT IT READS IS OF BULK AT MOST 1048576: true; the input reads as it did. -/
def envBoundsUptoRow : OpenClaim := { program := "ytjpmpnmjglbdiaa", sum := "e3d0637af9309f8f1e69a1e0691d98da82b87a701c46a61766c4ba8dd6e464b7", func := "conch/conchlaw13.EnvBounds", spec := "envBounds", inPlace := ["internal/bytealg.IndexByteString"], unfollowed := true, recurses := true, apart := false, narrowed := true }
def EnvBoundsUptoSaid : Prop := envBoundsUptoRow.holds Try.pinned (OpenSpec.upto envBoundsSpec)

/-- 'conchlaw13.EnvPlays', WHERE WHAT IT READS IS OF BULK AT MOST 1048576: true; the input reads as it did. -/
def envPlaysUptoRow : OpenClaim := { program := "ytjpmpnmjglbdiaa", sum := "e3d0637af9309f8f1e69a1e0691d98da82b87a701c46a61766c4ba8dd6e464b7", func := "conch/conchlaw13.EnvPlays", spec := "envPlays", inPlace := ["internal/bytealg.IndexByteString", "maps.clone"], unfollowed := true, recurses := true, apart := false, narrowed := true }
def EnvPlaysUptoSaid : Prop := envPlaysUptoRow.holds Try.pinned (OpenSpec.upto envPlaysSpec)

end Rows
end Go.Proofs.Ytjpmpnmjglbdiaa
