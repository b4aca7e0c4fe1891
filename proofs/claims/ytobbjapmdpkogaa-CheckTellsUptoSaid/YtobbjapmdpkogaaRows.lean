/-
  No cell of these rows narrows 'for every input' (looked for: loops, veiled, ifaces, maps, wideKeys, modest, calm, conditions, laid).
  DERIVED. THE GIVEN ROWS OF THIS SEAT. 7 by the template 'for every input the law returns true; each argument reads behind the call as it read before'; 0 by the template 'total and deterministic' (their statements: YtobbjapmdpkogaaTotals.lean).
  GIVEN WITH THE SEED: the statements are not yours to turn. If you find one false, say at which input.
  Laid BY PROGRAM, IN A SANDBOX (cutbox-rows.mjs): the forced cells as the released guide's own fill.sh prints them over the translation e27778b3d94125fe… (all of the seat's roots in one cut). By AI agents, Wed Nov 11 2026. No macro, syntax, notation, axiom, sorry.
-/
import Derived.Test.YtobbjapmdpkogaaChecked
import GoSem.Claim
import GoSem.ClaimJoined
import GoSem.ClaimMapViews
import Derived.JoinedTies
import Derived.KernelRfl
namespace Go.Proofs.Ytobbjapmdpkogaa
/- THE CELL 'sum', in the pinned program and in every row, IS THE sha256 OF THE DUMP (.gsa) THAT YtobbjapmdpkogaaProg.lean LOADS. Nothing in Lean hashes anything: it is a label: what it is worth is what the hold of that sum in a sandbox is worth. -/
noncomputable def Try.pinned : Pinned := { name := "ytobbjapmdpkogaa", sum := "e27778b3d94125febf39cf9626c25fa743e802381b36abe2e77ed44637677b0a", checked := Try.checked }
namespace Rows
def none {H : Type} : Left H := { results := [], args := [] }

/-- 'corolaw3.CheckTells': WHATEVER THE INPUT: true; the input reads as it did. -/
def checkTellsSpec : ChangeSpec := { name := "checkTells", fn := fun _ => fun
  | [d] => { results := [.lit (.bool true)], args := [d] }
  | _ => none }
def checkTellsRow : OpenClaim := { program := "ytobbjapmdpkogaa", sum := "e27778b3d94125febf39cf9626c25fa743e802381b36abe2e77ed44637677b0a", func := "corollary/corolaw3.CheckTells", spec := "checkTells", unfollowed := true, recurses := true, plainKeys := false, apart := false }
def CheckTellsSaid : Prop := checkTellsRow.holds Try.pinned (OpenSpec.ofChange checkTellsSpec)

/-- ITS FALSE NEIGHBOUR: 'it returns false'. Refute it at one input. -/
def checkTellsWrong : ChangeSpec := { name := "checkTells", fn := fun _ => fun
  | [d] => { results := [.lit (.bool false)], args := [d] }
  | _ => none }
def CheckTellsWrongFalsely : Prop := checkTellsRow.holds Try.pinned (OpenSpec.ofChange checkTellsWrong)

/-- 'corolaw2.SyntaxTells': WHATEVER THE INPUT: true; the input reads as it did. -/
def syntaxTellsSpec : ChangeSpec := { name := "syntaxTells", fn := fun _ => fun
  | [d1, d2] => { results := [.lit (.bool true)], args := [d1, d2] }
  | _ => none }
def syntaxTellsRow : OpenClaim := { program := "ytobbjapmdpkogaa", sum := "e27778b3d94125febf39cf9626c25fa743e802381b36abe2e77ed44637677b0a", func := "corollary/corolaw2.SyntaxTells", spec := "syntaxTells", inPlace := ["internal/abi.NoEscape", "internal/bytealg.MakeNoZero"], unfollowed := true, recurses := true, plainKeys := false, apart := false }
def SyntaxTellsSaid : Prop := syntaxTellsRow.holds Try.pinned (OpenSpec.ofChange syntaxTellsSpec)

/-- ITS FALSE NEIGHBOUR: 'it returns false'. Refute it at one input. -/
def syntaxTellsWrong : ChangeSpec := { name := "syntaxTells", fn := fun _ => fun
  | [d1, d2] => { results := [.lit (.bool false)], args := [d1, d2] }
  | _ => none }
def SyntaxTellsWrongFalsely : Prop := syntaxTellsRow.holds Try.pinned (OpenSpec.ofChange syntaxTellsWrong)

/-- 'corolaw2.SyntaxAgain': WHATEVER THE INPUT: true; the input reads as it did. -/
def syntaxAgainSpec : ChangeSpec := { name := "syntaxAgain", fn := fun _ => fun
  | [d] => { results := [.lit (.bool true)], args := [d] }
  | _ => none }
def syntaxAgainRow : OpenClaim := { program := "ytobbjapmdpkogaa", sum := "e27778b3d94125febf39cf9626c25fa743e802381b36abe2e77ed44637677b0a", func := "corollary/corolaw2.SyntaxAgain", spec := "syntaxAgain", inPlace := ["internal/abi.NoEscape", "internal/bytealg.MakeNoZero"], unfollowed := true, recurses := true, plainKeys := false, apart := false }
def SyntaxAgainSaid : Prop := syntaxAgainRow.holds Try.pinned (OpenSpec.ofChange syntaxAgainSpec)

/-- ITS FALSE NEIGHBOUR: 'it returns false'. Refute it at one input. -/
def syntaxAgainWrong : ChangeSpec := { name := "syntaxAgain", fn := fun _ => fun
  | [d] => { results := [.lit (.bool false)], args := [d] }
  | _ => none }
def SyntaxAgainWrongFalsely : Prop := syntaxAgainRow.holds Try.pinned (OpenSpec.ofChange syntaxAgainWrong)

/-- 'corolaw2.SyntaxJoined': WHATEVER THE INPUT: true; the input reads as it did. -/
def syntaxJoinedSpec : ChangeSpec := { name := "syntaxJoined", fn := fun _ => fun
  | [d1, d2] => { results := [.lit (.bool true)], args := [d1, d2] }
  | _ => none }
def syntaxJoinedRow : OpenClaim := { program := "ytobbjapmdpkogaa", sum := "e27778b3d94125febf39cf9626c25fa743e802381b36abe2e77ed44637677b0a", func := "corollary/corolaw2.SyntaxJoined", spec := "syntaxJoined", inPlace := ["internal/abi.NoEscape", "internal/bytealg.MakeNoZero"], unfollowed := true, recurses := true, plainKeys := false, apart := false }
def SyntaxJoinedSaid : Prop := syntaxJoinedRow.holds Try.pinned (OpenSpec.ofChange syntaxJoinedSpec)

/-- ITS FALSE NEIGHBOUR: 'it returns false'. Refute it at one input. -/
def syntaxJoinedWrong : ChangeSpec := { name := "syntaxJoined", fn := fun _ => fun
  | [d1, d2] => { results := [.lit (.bool false)], args := [d1, d2] }
  | _ => none }
def SyntaxJoinedWrongFalsely : Prop := syntaxJoinedRow.holds Try.pinned (OpenSpec.ofChange syntaxJoinedWrong)

/-- 'corolaw3.CheckStrata': WHATEVER THE INPUT: true; the input reads as it did. -/
def checkStrataSpec : ChangeSpec := { name := "checkStrata", fn := fun _ => fun
  | [d] => { results := [.lit (.bool true)], args := [d] }
  | _ => none }
def checkStrataRow : OpenClaim := { program := "ytobbjapmdpkogaa", sum := "e27778b3d94125febf39cf9626c25fa743e802381b36abe2e77ed44637677b0a", func := "corollary/corolaw3.CheckStrata", spec := "checkStrata", unfollowed := true, recurses := true, plainKeys := false, apart := false }
def CheckStrataSaid : Prop := checkStrataRow.holds Try.pinned (OpenSpec.ofChange checkStrataSpec)

/-- ITS FALSE NEIGHBOUR: 'it returns false'. Refute it at one input. -/
def checkStrataWrong : ChangeSpec := { name := "checkStrata", fn := fun _ => fun
  | [d] => { results := [.lit (.bool false)], args := [d] }
  | _ => none }
def CheckStrataWrongFalsely : Prop := checkStrataRow.holds Try.pinned (OpenSpec.ofChange checkStrataWrong)

/-- 'corolaw3.CheckPlain': WHATEVER THE INPUT: true; the input reads as it did. -/
def checkPlainSpec : ChangeSpec := { name := "checkPlain", fn := fun _ => fun
  | [d1, d2] => { results := [.lit (.bool true)], args := [d1, d2] }
  | _ => none }
def checkPlainRow : OpenClaim := { program := "ytobbjapmdpkogaa", sum := "e27778b3d94125febf39cf9626c25fa743e802381b36abe2e77ed44637677b0a", func := "corollary/corolaw3.CheckPlain", spec := "checkPlain", unfollowed := true, recurses := true, plainKeys := false, apart := false }
def CheckPlainSaid : Prop := checkPlainRow.holds Try.pinned (OpenSpec.ofChange checkPlainSpec)

/-- ITS FALSE NEIGHBOUR: 'it returns false'. Refute it at one input. -/
def checkPlainWrong : ChangeSpec := { name := "checkPlain", fn := fun _ => fun
  | [d1, d2] => { results := [.lit (.bool false)], args := [d1, d2] }
  | _ => none }
def CheckPlainWrongFalsely : Prop := checkPlainRow.holds Try.pinned (OpenSpec.ofChange checkPlainWrong)

/-- 'corolaw3.CheckLess': WHATEVER THE INPUT: true; the input reads as it did. -/
def checkLessSpec : ChangeSpec := { name := "checkLess", fn := fun _ => fun
  | [d] => { results := [.lit (.bool true)], args := [d] }
  | _ => none }
def checkLessRow : OpenClaim := { program := "ytobbjapmdpkogaa", sum := "e27778b3d94125febf39cf9626c25fa743e802381b36abe2e77ed44637677b0a", func := "corollary/corolaw3.CheckLess", spec := "checkLess", unfollowed := true, recurses := true, plainKeys := false, apart := false }
def CheckLessSaid : Prop := checkLessRow.holds Try.pinned (OpenSpec.ofChange checkLessSpec)

/-- ITS FALSE NEIGHBOUR: 'it returns false'. Refute it at one input. -/
def checkLessWrong : ChangeSpec := { name := "checkLess", fn := fun _ => fun
  | [d] => { results := [.lit (.bool false)], args := [d] }
  | _ => none }
def CheckLessWrongFalsely : Prop := checkLessRow.holds Try.pinned (OpenSpec.ofChange checkLessWrong)

/- THE SECOND FORM. 'bulk': how many values and letters a reading holds, each counted each time it is reached (what is shared counts as often as it is met; a slice's spare places count too). A statement '..UptoSaid' is the law's where the arguments, and the package variables that the reading takes, are together of bulk at most 1048576: NARROWER than '..Said'. Prove '..Said' where nothing that the law and all that it calls make is longer than what came in: it says more and counts as full. Else prove '..UptoSaid'. A law counts once. -/
mutual
def uptoBulk {H : Type} : DataW H → Nat
  | .lit (.string bytes) => bytes.length + 1
  | .lit _ => 1
  | .nil => 1
  | .ptr d => uptoBulk d + 1
  | .slice elems spare => uptoBulkAll elems + uptoBulkAll spare + 1
  | .agg parts => uptoBulkAll parts + 1
  | .iface _ d => uptoBulk d + 1
  | .map entries => uptoBulkEntries entries + 1
  | .held _ => 1
def uptoBulkAll {H : Type} : List (DataW H) → Nat
  | [] => 0
  | d :: r => uptoBulk d + uptoBulkAll r
def uptoBulkEntries {H : Type} : List (Lit × DataW H) → Nat
  | [] => 0
  | x :: r => uptoBulkEntry x + uptoBulkEntries r
def uptoBulkEntry {H : Type} : Lit × DataW H → Nat
  | (.string bytes, d) => bytes.length + uptoBulk d + 1
  | (_, d) => uptoBulk d + 1
 end
def uptoSmall : (H : Type) → List (DataW H) → Bool := fun _ ds => decide (uptoBulkAll ds ≤ 1048576)
def OpenSpec.upto (s : _root_.Go.ChangeSpec) : _root_.Go.OpenSpec := { _root_.Go.OpenSpec.ofChange s with cond := some uptoSmall }

/-- 'corolaw3.CheckTells', WHERE WHAT IT READS IS OF BULK AT MOST 1048576: true; the input reads as it did. -/
def checkTellsUptoRow : OpenClaim := { program := "ytobbjapmdpkogaa", sum := "e27778b3d94125febf39cf9626c25fa743e802381b36abe2e77ed44637677b0a", func := "corollary/corolaw3.CheckTells", spec := "checkTells", unfollowed := true, recurses := true, plainKeys := false, apart := false, narrowed := true }
def CheckTellsUptoSaid : Prop := checkTellsUptoRow.holds Try.pinned (OpenSpec.upto checkTellsSpec)

/-- 'corolaw2.SyntaxTells', WHERE WHAT IT READS IS OF BULK AT MOST 1048576: true; the input reads as it did. -/
def syntaxTellsUptoRow : OpenClaim := { program := "ytobbjapmdpkogaa", sum := "e27778b3d94125febf39cf9626c25fa743e802381b36abe2e77ed44637677b0a", func := "corollary/corolaw2.SyntaxTells", spec := "syntaxTells", inPlace := ["internal/abi.NoEscape", "internal/bytealg.MakeNoZero"], unfollowed := true, recurses := true, plainKeys := false, apart := false, narrowed := true }
def SyntaxTellsUptoSaid : Prop := syntaxTellsUptoRow.holds Try.pinned (OpenSpec.upto syntaxTellsSpec)

/-- 'corolaw2.SyntaxAgain', WHERE WHAT IT READS IS OF BULK AT MOST 1048576: true; the input reads as it did. -/
def syntaxAgainUptoRow : OpenClaim := { program := "ytobbjapmdpkogaa", sum := "e27778b3d94125febf39cf9626c25fa743e802381b36abe2e77ed44637677b0a", func := "corollary/corolaw2.SyntaxAgain", spec := "syntaxAgain", inPlace := ["internal/abi.NoEscape", "internal/bytealg.MakeNoZero"], unfollowed := true, recurses := true, plainKeys := false, apart := false, narrowed := true }
def SyntaxAgainUptoSaid : Prop := syntaxAgainUptoRow.holds Try.pinned (OpenSpec.upto syntaxAgainSpec)

/-- 'corolaw2.SyntaxJoined', WHERE WHAT IT READS IS OF BULK AT MOST 1048576: true; the input reads as it did. -/
def syntaxJoinedUptoRow : OpenClaim := { program := "ytobbjapmdpkogaa", sum := "e27778b3d94125febf39cf9626c25fa743e802381b36abe2e77ed44637677b0a", func := "corollary/corolaw2.SyntaxJoined", spec := "syntaxJoined", inPlace := ["internal/abi.NoEscape", "internal/bytealg.MakeNoZero"], unfollowed := true, recurses := true, plainKeys := false, apart := false, narrowed := true }
def SyntaxJoinedUptoSaid : Prop := syntaxJoinedUptoRow.holds Try.pinned (OpenSpec.upto syntaxJoinedSpec)

/-- 'corolaw3.CheckStrata', WHERE WHAT IT READS IS OF BULK AT MOST 1048576: true; the input reads as it did. -/
def checkStrataUptoRow : OpenClaim := { program := "ytobbjapmdpkogaa", sum := "e27778b3d94125febf39cf9626c25fa743e802381b36abe2e77ed44637677b0a", func := "corollary/corolaw3.CheckStrata", spec := "checkStrata", unfollowed := true, recurses := true, plainKeys := false, apart := false, narrowed := true }
def CheckStrataUptoSaid : Prop := checkStrataUptoRow.holds Try.pinned (OpenSpec.upto checkStrataSpec)

/-- 'corolaw3.CheckPlain', WHERE WHAT IT READS IS OF BULK AT MOST 1048576: true; the input reads as it did. -/
def checkPlainUptoRow : OpenClaim := { program := "ytobbjapmdpkogaa", sum := "e27778b3d94125febf39cf9626c25fa743e802381b36abe2e77ed44637677b0a", func := "corollary/corolaw3.CheckPlain", spec := "checkPlain", unfollowed := true, recurses := true, plainKeys := false, apart := false, narrowed := true }
def CheckPlainUptoSaid : Prop := checkPlainUptoRow.holds Try.pinned (OpenSpec.upto checkPlainSpec)

/-- 'corolaw3.CheckLess', WHERE WHAT IT READS IS OF BULK AT MOST 1048576: true; the input reads as it did. -/
def checkLessUptoRow : OpenClaim := { program := "ytobbjapmdpkogaa", sum := "e27778b3d94125febf39cf9626c25fa743e802381b36abe2e77ed44637677b0a", func := "corollary/corolaw3.CheckLess", spec := "checkLess", unfollowed := true, recurses := true, plainKeys := false, apart := false, narrowed := true }
def CheckLessUptoSaid : Prop := checkLessUptoRow.holds Try.pinned (OpenSpec.upto checkLessSpec)

end Rows
end Go.Proofs.Ytobbjapmdpkogaa
