/-
  No cell of these rows narrows 'for every input' (looked for: loops, veiled, ifaces, maps, wideKeys, modest, calm, conditions, laid).
  DERIVED. THE GIVEN ROWS OF THIS SEAT. 14 by the template 'for every input the law returns true; each argument reads behind the call as it read before'; 0 by the template 'total and deterministic' (their statements: YtgdokncccldgiaaTotals.lean).
  GIVEN WITH THE SEED: the statements are not yours to turn. If you find one false, say at which input.
  Laid BY PROGRAM, IN A SANDBOX (cutbox-rows.mjs): the forced cells as the released guide's own fill.sh prints them over the translation 9bdf14c7e10719a5… (all of the seat's roots in one cut). By AI agents, Wed Nov 11 2026. No macro, syntax, notation, axiom, sorry.
-/
import Derived.Test.YtgdokncccldgiaaChecked
import GoSem.Claim
import GoSem.ClaimJoined
import GoSem.ClaimMapViews
import Derived.JoinedTies
import Derived.KernelRfl
namespace Go.Proofs.Ytgdokncccldgiaa
/- THE CELL 'sum', in the pinned program and in every row, IS THE sha256 OF THE DUMP (.gsa) THAT YtgdokncccldgiaaProg.lean LOADS. Nothing in Lean hashes anything: it is a label: what it is worth is what the hold of that sum in a sandbox is worth. -/
noncomputable def Try.pinned : Pinned := { name := "ytgdokncccldgiaa", sum := "9bdf14c7e10719a594808136eacef8e45625d7898434b93e47a7263add628edb", checked := Try.checked }
namespace Rows
def none {H : Type} : Left H := { results := [], args := [] }

/-- 'corolaw3.CheckTells': WHATEVER THE INPUT: true; the input reads as it did. -/
def checkTellsSpec : ChangeSpec := { name := "checkTells", fn := fun _ => fun
  | [d] => { results := [.lit (.bool true)], args := [d] }
  | _ => none }
def checkTellsRow : OpenClaim := { program := "ytgdokncccldgiaa", sum := "9bdf14c7e10719a594808136eacef8e45625d7898434b93e47a7263add628edb", func := "corollary/corolaw3.CheckTells", spec := "checkTells", unfollowed := true, recurses := true, plainKeys := false, apart := false }
def CheckTellsSaid : Prop := checkTellsRow.holds Try.pinned (OpenSpec.ofChange checkTellsSpec)

/-- ITS FALSE NEIGHBOUR: 'it returns false'. Refute it at one input. -/
def checkTellsWrong : ChangeSpec := { name := "checkTells", fn := fun _ => fun
  | [d] => { results := [.lit (.bool false)], args := [d] }
  | _ => none }
def CheckTellsWrongFalsely : Prop := checkTellsRow.holds Try.pinned (OpenSpec.ofChange checkTellsWrong)

/-- 'corolaw2.SyntaxTells': WHATEVER THE INPUT: true; the input reads as it did. -/
def syntaxTellsSpec : ChangeSpec := { name := "syntaxTells", fn := fun _ => fun
  | [d1, d2] => { results := [.lit (.bool true)], args := [d1, d2] }
  | _ => none }
def syntaxTellsRow : OpenClaim := { program := "ytgdokncccldgiaa", sum := "9bdf14c7e10719a594808136eacef8e45625d7898434b93e47a7263add628edb", func := "corollary/corolaw2.SyntaxTells", spec := "syntaxTells", inPlace := ["internal/abi.NoEscape", "internal/bytealg.MakeNoZero"], unfollowed := true, recurses := true, plainKeys := false, apart := false }
def SyntaxTellsSaid : Prop := syntaxTellsRow.holds Try.pinned (OpenSpec.ofChange syntaxTellsSpec)

/-- ITS FALSE NEIGHBOUR: 'it returns false'. Refute it at one input. -/
def syntaxTellsWrong : ChangeSpec := { name := "syntaxTells", fn := fun _ => fun
  | [d1, d2] => { results := [.lit (.bool false)], args := [d1, d2] }
  | _ => none }
def SyntaxTellsWrongFalsely : Prop := syntaxTellsRow.holds Try.pinned (OpenSpec.ofChange syntaxTellsWrong)

/-- 'corolaw2.SyntaxAgain': WHATEVER THE INPUT: true; the input reads as it did. -/
def syntaxAgainSpec : ChangeSpec := { name := "syntaxAgain", fn := fun _ => fun
  | [d] => { results := [.lit (.bool true)], args := [d] }
  | _ => none }
def syntaxAgainRow : OpenClaim := { program := "ytgdokncccldgiaa", sum := "9bdf14c7e10719a594808136eacef8e45625d7898434b93e47a7263add628edb", func := "corollary/corolaw2.SyntaxAgain", spec := "syntaxAgain", inPlace := ["internal/abi.NoEscape", "internal/bytealg.MakeNoZero"], unfollowed := true, recurses := true, plainKeys := false, apart := false }
def SyntaxAgainSaid : Prop := syntaxAgainRow.holds Try.pinned (OpenSpec.ofChange syntaxAgainSpec)

/-- ITS FALSE NEIGHBOUR: 'it returns false'. Refute it at one input. -/
def syntaxAgainWrong : ChangeSpec := { name := "syntaxAgain", fn := fun _ => fun
  | [d] => { results := [.lit (.bool false)], args := [d] }
  | _ => none }
def SyntaxAgainWrongFalsely : Prop := syntaxAgainRow.holds Try.pinned (OpenSpec.ofChange syntaxAgainWrong)

/-- 'corolaw2.SyntaxJoined': WHATEVER THE INPUT: true; the input reads as it did. -/
def syntaxJoinedSpec : ChangeSpec := { name := "syntaxJoined", fn := fun _ => fun
  | [d1, d2] => { results := [.lit (.bool true)], args := [d1, d2] }
  | _ => none }
def syntaxJoinedRow : OpenClaim := { program := "ytgdokncccldgiaa", sum := "9bdf14c7e10719a594808136eacef8e45625d7898434b93e47a7263add628edb", func := "corollary/corolaw2.SyntaxJoined", spec := "syntaxJoined", inPlace := ["internal/abi.NoEscape", "internal/bytealg.MakeNoZero"], unfollowed := true, recurses := true, plainKeys := false, apart := false }
def SyntaxJoinedSaid : Prop := syntaxJoinedRow.holds Try.pinned (OpenSpec.ofChange syntaxJoinedSpec)

/-- ITS FALSE NEIGHBOUR: 'it returns false'. Refute it at one input. -/
def syntaxJoinedWrong : ChangeSpec := { name := "syntaxJoined", fn := fun _ => fun
  | [d1, d2] => { results := [.lit (.bool false)], args := [d1, d2] }
  | _ => none }
def SyntaxJoinedWrongFalsely : Prop := syntaxJoinedRow.holds Try.pinned (OpenSpec.ofChange syntaxJoinedWrong)

/-- 'corolaw3.CheckStrata': WHATEVER THE INPUT: true; the input reads as it did. -/
def checkStrataSpec : ChangeSpec := { name := "checkStrata", fn := fun _ => fun
  | [d] => { results := [.lit (.bool true)], args := [d] }
  | _ => none }
def checkStrataRow : OpenClaim := { program := "ytgdokncccldgiaa", sum := "9bdf14c7e10719a594808136eacef8e45625d7898434b93e47a7263add628edb", func := "corollary/corolaw3.CheckStrata", spec := "checkStrata", unfollowed := true, recurses := true, plainKeys := false, apart := false }
def CheckStrataSaid : Prop := checkStrataRow.holds Try.pinned (OpenSpec.ofChange checkStrataSpec)

/-- ITS FALSE NEIGHBOUR: 'it returns false'. Refute it at one input. -/
def checkStrataWrong : ChangeSpec := { name := "checkStrata", fn := fun _ => fun
  | [d] => { results := [.lit (.bool false)], args := [d] }
  | _ => none }
def CheckStrataWrongFalsely : Prop := checkStrataRow.holds Try.pinned (OpenSpec.ofChange checkStrataWrong)

/-- 'corolaw3.CheckPlain': WHATEVER THE INPUT: true; the input reads as it did. -/
def checkPlainSpec : ChangeSpec := { name := "checkPlain", fn := fun _ => fun
  | [d1, d2] => { results := [.lit (.bool true)], args := [d1, d2] }
  | _ => none }
def checkPlainRow : OpenClaim := { program := "ytgdokncccldgiaa", sum := "9bdf14c7e10719a594808136eacef8e45625d7898434b93e47a7263add628edb", func := "corollary/corolaw3.CheckPlain", spec := "checkPlain", unfollowed := true, recurses := true, plainKeys := false, apart := false }
def CheckPlainSaid : Prop := checkPlainRow.holds Try.pinned (OpenSpec.ofChange checkPlainSpec)

/-- ITS FALSE NEIGHBOUR: 'it returns false'. Refute it at one input. -/
def checkPlainWrong : ChangeSpec := { name := "checkPlain", fn := fun _ => fun
  | [d1, d2] => { results := [.lit (.bool false)], args := [d1, d2] }
  | _ => none }
def CheckPlainWrongFalsely : Prop := checkPlainRow.holds Try.pinned (OpenSpec.ofChange checkPlainWrong)

/-- 'corolaw3.CheckLess': WHATEVER THE INPUT: true; the input reads as it did. -/
def checkLessSpec : ChangeSpec := { name := "checkLess", fn := fun _ => fun
  | [d] => { results := [.lit (.bool true)], args := [d] }
  | _ => none }
def checkLessRow : OpenClaim := { program := "ytgdokncccldgiaa", sum := "9bdf14c7e10719a594808136eacef8e45625d7898434b93e47a7263add628edb", func := "corollary/corolaw3.CheckLess", spec := "checkLess", unfollowed := true, recurses := true, plainKeys := false, apart := false }
def CheckLessSaid : Prop := checkLessRow.holds Try.pinned (OpenSpec.ofChange checkLessSpec)

/-- ITS FALSE NEIGHBOUR: 'it returns false'. Refute it at one input. -/
def checkLessWrong : ChangeSpec := { name := "checkLess", fn := fun _ => fun
  | [d] => { results := [.lit (.bool false)], args := [d] }
  | _ => none }
def CheckLessWrongFalsely : Prop := checkLessRow.holds Try.pinned (OpenSpec.ofChange checkLessWrong)

/-- 'corolaw1.FactTells': WHATEVER THE INPUT: true; the input reads as it did. -/
def factTellsSpec : ChangeSpec := { name := "factTells", fn := fun _ => fun
  | [d1, d2, d3, d4] => { results := [.lit (.bool true)], args := [d1, d2, d3, d4] }
  | _ => none }
def factTellsRow : OpenClaim := { program := "ytgdokncccldgiaa", sum := "9bdf14c7e10719a594808136eacef8e45625d7898434b93e47a7263add628edb", func := "corollary/corolaw1.FactTells", spec := "factTells", unfollowed := true, recurses := true, plainKeys := false, apart := false }
def FactTellsSaid : Prop := factTellsRow.holds Try.pinned (OpenSpec.ofChange factTellsSpec)

/-- ITS FALSE NEIGHBOUR: 'it returns false'. Refute it at one input. -/
def factTellsWrong : ChangeSpec := { name := "factTells", fn := fun _ => fun
  | [d1, d2, d3, d4] => { results := [.lit (.bool false)], args := [d1, d2, d3, d4] }
  | _ => none }
def FactTellsWrongFalsely : Prop := factTellsRow.holds Try.pinned (OpenSpec.ofChange factTellsWrong)

/-- 'corolaw1.FactSets': WHATEVER THE INPUT: true; the input reads as it did. -/
def factSetsSpec : ChangeSpec := { name := "factSets", fn := fun _ => fun
  | [d1, d2, d3] => { results := [.lit (.bool true)], args := [d1, d2, d3] }
  | _ => none }
def factSetsRow : OpenClaim := { program := "ytgdokncccldgiaa", sum := "9bdf14c7e10719a594808136eacef8e45625d7898434b93e47a7263add628edb", func := "corollary/corolaw1.FactSets", spec := "factSets", unfollowed := true, recurses := true, plainKeys := false, apart := false }
def FactSetsSaid : Prop := factSetsRow.holds Try.pinned (OpenSpec.ofChange factSetsSpec)

/-- ITS FALSE NEIGHBOUR: 'it returns false'. Refute it at one input. -/
def factSetsWrong : ChangeSpec := { name := "factSets", fn := fun _ => fun
  | [d1, d2, d3] => { results := [.lit (.bool false)], args := [d1, d2, d3] }
  | _ => none }
def FactSetsWrongFalsely : Prop := factSetsRow.holds Try.pinned (OpenSpec.ofChange factSetsWrong)

/-- 'corolaw1.FactOrder': WHATEVER THE INPUT: true; the input reads as it did. -/
def factOrderSpec : ChangeSpec := { name := "factOrder", fn := fun _ => fun
  | [d1, d2, d3] => { results := [.lit (.bool true)], args := [d1, d2, d3] }
  | _ => none }
def factOrderRow : OpenClaim := { program := "ytgdokncccldgiaa", sum := "9bdf14c7e10719a594808136eacef8e45625d7898434b93e47a7263add628edb", func := "corollary/corolaw1.FactOrder", spec := "factOrder", unfollowed := true, recurses := true, plainKeys := false, apart := false }
def FactOrderSaid : Prop := factOrderRow.holds Try.pinned (OpenSpec.ofChange factOrderSpec)

/-- ITS FALSE NEIGHBOUR: 'it returns false'. Refute it at one input. -/
def factOrderWrong : ChangeSpec := { name := "factOrder", fn := fun _ => fun
  | [d1, d2, d3] => { results := [.lit (.bool false)], args := [d1, d2, d3] }
  | _ => none }
def FactOrderWrongFalsely : Prop := factOrderRow.holds Try.pinned (OpenSpec.ofChange factOrderWrong)

/-- 'corolaw4.MatchTells': WHATEVER THE INPUT: true; the input reads as it did. -/
def matchTellsSpec : ChangeSpec := { name := "matchTells", fn := fun _ => fun
  | [d1, d2, d3, d4, d5] => { results := [.lit (.bool true)], args := [d1, d2, d3, d4, d5] }
  | _ => none }
def matchTellsRow : OpenClaim := { program := "ytgdokncccldgiaa", sum := "9bdf14c7e10719a594808136eacef8e45625d7898434b93e47a7263add628edb", func := "corollary/corolaw4.MatchTells", spec := "matchTells", unfollowed := true, recurses := true, plainKeys := false, apart := false }
def MatchTellsSaid : Prop := matchTellsRow.holds Try.pinned (OpenSpec.ofChange matchTellsSpec)

/-- ITS FALSE NEIGHBOUR: 'it returns false'. Refute it at one input. -/
def matchTellsWrong : ChangeSpec := { name := "matchTells", fn := fun _ => fun
  | [d1, d2, d3, d4, d5] => { results := [.lit (.bool false)], args := [d1, d2, d3, d4, d5] }
  | _ => none }
def MatchTellsWrongFalsely : Prop := matchTellsRow.holds Try.pinned (OpenSpec.ofChange matchTellsWrong)

/-- 'corolaw4.MatchSo': WHATEVER THE INPUT: true; the input reads as it did. -/
def matchSoSpec : ChangeSpec := { name := "matchSo", fn := fun _ => fun
  | [d1, d2] => { results := [.lit (.bool true)], args := [d1, d2] }
  | _ => none }
def matchSoRow : OpenClaim := { program := "ytgdokncccldgiaa", sum := "9bdf14c7e10719a594808136eacef8e45625d7898434b93e47a7263add628edb", func := "corollary/corolaw4.MatchSo", spec := "matchSo", unfollowed := true, recurses := true, plainKeys := false, apart := false }
def MatchSoSaid : Prop := matchSoRow.holds Try.pinned (OpenSpec.ofChange matchSoSpec)

/-- ITS FALSE NEIGHBOUR: 'it returns false'. Refute it at one input. -/
def matchSoWrong : ChangeSpec := { name := "matchSo", fn := fun _ => fun
  | [d1, d2] => { results := [.lit (.bool false)], args := [d1, d2] }
  | _ => none }
def MatchSoWrongFalsely : Prop := matchSoRow.holds Try.pinned (OpenSpec.ofChange matchSoWrong)

/-- 'corolaw4.MatchAll': WHATEVER THE INPUT: true; the input reads as it did. -/
def matchAllSpec : ChangeSpec := { name := "matchAll", fn := fun _ => fun
  | [d1, d2, d3] => { results := [.lit (.bool true)], args := [d1, d2, d3] }
  | _ => none }
def matchAllRow : OpenClaim := { program := "ytgdokncccldgiaa", sum := "9bdf14c7e10719a594808136eacef8e45625d7898434b93e47a7263add628edb", func := "corollary/corolaw4.MatchAll", spec := "matchAll", unfollowed := true, recurses := true, plainKeys := false, apart := false }
def MatchAllSaid : Prop := matchAllRow.holds Try.pinned (OpenSpec.ofChange matchAllSpec)

/-- ITS FALSE NEIGHBOUR: 'it returns false'. Refute it at one input. -/
def matchAllWrong : ChangeSpec := { name := "matchAll", fn := fun _ => fun
  | [d1, d2, d3] => { results := [.lit (.bool false)], args := [d1, d2, d3] }
  | _ => none }
def MatchAllWrongFalsely : Prop := matchAllRow.holds Try.pinned (OpenSpec.ofChange matchAllWrong)

/-- 'corolaw4.MatchOrder': WHATEVER THE INPUT: true; the input reads as it did. -/
def matchOrderSpec : ChangeSpec := { name := "matchOrder", fn := fun _ => fun
  | [d1, d2] => { results := [.lit (.bool true)], args := [d1, d2] }
  | _ => none }
def matchOrderRow : OpenClaim := { program := "ytgdokncccldgiaa", sum := "9bdf14c7e10719a594808136eacef8e45625d7898434b93e47a7263add628edb", func := "corollary/corolaw4.MatchOrder", spec := "matchOrder", unfollowed := true, recurses := true, plainKeys := false, apart := false }
def MatchOrderSaid : Prop := matchOrderRow.holds Try.pinned (OpenSpec.ofChange matchOrderSpec)

/-- ITS FALSE NEIGHBOUR: 'it returns false'. Refute it at one input. -/
def matchOrderWrong : ChangeSpec := { name := "matchOrder", fn := fun _ => fun
  | [d1, d2] => { results := [.lit (.bool false)], args := [d1, d2] }
  | _ => none }
def MatchOrderWrongFalsely : Prop := matchOrderRow.holds Try.pinned (OpenSpec.ofChange matchOrderWrong)

/- THE SECOND FORM. 'bulk': how many values and letters a reading holds, each counted each time it is reached (what is shared counts as often as it is met; a slice's spare places count too). A statement '..UptoSaid' is the law's where the arguments, and the package variables that the reading takes, are together of bulk at most 1048576: NARROWER than '..Said'. Prove '..Said' where nothing that the law and all that it calls make is longer than what came in: it says more and counts as full. Else prove '..UptoSaid'. A law counts once. -/
mutual
def uptoBulk {H : Type} : DataW H → Nat
  | .lit (.string bytes) => bytes.length + 1
  | .lit _ => 1
  | .nil => 1
  | .ptr d => uptoBulk d + 1
  | .slice elems spare => uptoBulkAll elems + uptoBulkAll spare + 1
  | .agg parts => uptoBulkAll parts + 1
  | .iface _ d => uptoBulk d + 1
  | .map entries => uptoBulkEntries entries + 1
  | .held _ => 1
def uptoBulkAll {H : Type} : List (DataW H) → Nat
  | [] => 0
  | d :: r => uptoBulk d + uptoBulkAll r
def uptoBulkEntries {H : Type} : List (Lit × DataW H) → Nat
  | [] => 0
  | x :: r => uptoBulkEntry x + uptoBulkEntries r
def uptoBulkEntry {H : Type} : Lit × DataW H → Nat
  | (.string bytes, d) => bytes.length + uptoBulk d + 1
  | (_, d) => uptoBulk d + 1
 end
def uptoSmall : (H : Type) → List (DataW H) → Bool := fun _ ds => decide (uptoBulkAll ds ≤ 1048576)
def OpenSpec.upto (s : _root_.Go.ChangeSpec) : _root_.Go.OpenSpec := { _root_.Go.OpenSpec.ofChange s with cond := some uptoSmall }

/-- 'corolaw3.CheckTells', WHERE WHAT IT READS IS OF BULK AT MOST 1048576: true; the input reads as it did. -/
def checkTellsUptoRow : OpenClaim := { program := "ytgdokncccldgiaa", sum := "9bdf14c7e10719a594808136eacef8e45625d7898434b93e47a7263add628edb", func := "corollary/corolaw3.CheckTells", spec := "checkTells", unfollowed := true, recurses := true, plainKeys := false, apart := false, narrowed := true }
def CheckTellsUptoSaid : Prop := checkTellsUptoRow.holds Try.pinned (OpenSpec.upto checkTellsSpec)

/-- 'corolaw2.SyntaxTells', WHERE WHAT IT READS IS OF BULK AT MOST 1048576: true; the input reads as it did. -/
def syntaxTellsUptoRow : OpenClaim := { program := "ytgdokncccldgiaa", sum := "9bdf14c7e10719a594808136eacef8e45625d7898434b93e47a7263add628edb", func := "corollary/corolaw2.SyntaxTells", spec := "syntaxTells", inPlace := ["internal/abi.NoEscape", "internal/bytealg.MakeNoZero"], unfollowed := true, recurses := true, plainKeys := false, apart := false, narrowed := true }
def SyntaxTellsUptoSaid : Prop := syntaxTellsUptoRow.holds Try.pinned (OpenSpec.upto syntaxTellsSpec)

/-- 'corolaw2.SyntaxAgain', WHERE WHAT IT READS IS OF BULK AT MOST 1048576: true; the input reads as it did. -/
def syntaxAgainUptoRow : OpenClaim := { program := "ytgdokncccldgiaa", sum := "9bdf14c7e10719a594808136eacef8e45625d7898434b93e47a7263add628edb", func := "corollary/corolaw2.SyntaxAgain", spec := "syntaxAgain", inPlace := ["internal/abi.NoEscape", "internal/bytealg.MakeNoZero"], unfollowed := true, recurses := true, plainKeys := false, apart := false, narrowed := true }
def SyntaxAgainUptoSaid : Prop := syntaxAgainUptoRow.holds Try.pinned (OpenSpec.upto syntaxAgainSpec)

/-- 'corolaw2.SyntaxJoined', WHERE WHAT IT READS IS OF BULK AT MOST 1048576: true; the input reads as it did. -/
def syntaxJoinedUptoRow : OpenClaim := { program := "ytgdokncccldgiaa", sum := "9bdf14c7e10719a594808136eacef8e45625d7898434b93e47a7263add628edb", func := "corollary/corolaw2.SyntaxJoined", spec := "syntaxJoined", inPlace := ["internal/abi.NoEscape", "internal/bytealg.MakeNoZero"], unfollowed := true, recurses := true, plainKeys := false, apart := false, narrowed := true }
def SyntaxJoinedUptoSaid : Prop := syntaxJoinedUptoRow.holds Try.pinned (OpenSpec.upto syntaxJoinedSpec)

/-- 'corolaw3.CheckStrata', WHERE WHAT IT READS IS OF BULK AT MOST 1048576: true; the input reads as it did. -/
def checkStrataUptoRow : OpenClaim := { program := "ytgdokncccldgiaa", sum := "9bdf14c7e10719a594808136eacef8e45625d7898434b93e47a7263add628edb", func := "corollary/corolaw3.CheckStrata", spec := "checkStrata", unfollowed := true, recurses := true, plainKeys := false, apart := false, narrowed := true }
def CheckStrataUptoSaid : Prop := checkStrataUptoRow.holds Try.pinned (OpenSpec.upto checkStrataSpec)

/-- 'corolaw3.CheckPlain', WHERE WHAT IT READS IS OF BULK AT MOST 1048576: true; the input reads as it did. -/
def checkPlainUptoRow : OpenClaim := { program := "ytgdokncccldgiaa", sum := "9bdf14c7e10719a594808136eacef8e45625d7898434b93e47a7263add628edb", func := "corollary/corolaw3.CheckPlain", spec := "checkPlain", unfollowed := true, recurses := true, plainKeys := false, apart := false, narrowed := true }
def CheckPlainUptoSaid : Prop := checkPlainUptoRow.holds Try.pinned (OpenSpec.upto checkPlainSpec)

/-- 'corolaw3.CheckLess', WHERE WHAT IT READS IS OF BULK AT MOST 1048576: true; the input reads as it did. -/
def checkLessUptoRow : OpenClaim := { program := "ytgdokncccldgiaa", sum := "9bdf14c7e10719a594808136eacef8e45625d7898434b93e47a7263add628edb", func := "corollary/corolaw3.CheckLess", spec := "checkLess", unfollowed := true, recurses := true, plainKeys := false, apart := false, narrowed := true }
def CheckLessUptoSaid : Prop := checkLessUptoRow.holds Try.pinned (OpenSpec.upto checkLessSpec)

/-- 'corolaw1.FactTells', WHERE WHAT IT READS IS OF BULK AT MOST 1048576: true; the input reads as it did. -/
def factTellsUptoRow : OpenClaim := { program := "ytgdokncccldgiaa", sum := "9bdf14c7e10719a594808136eacef8e45625d7898434b93e47a7263add628edb", func := "corollary/corolaw1.FactTells", spec := "factTells", unfollowed := true, recurses := true, plainKeys := false, apart := false, narrowed := true }
def FactTellsUptoSaid : Prop := factTellsUptoRow.holds Try.pinned (OpenSpec.upto factTellsSpec)

/-- 'corolaw1.FactSets', WHERE WHAT IT READS IS OF BULK AT MOST 1048576: true; the input reads as it did. -/
def factSetsUptoRow : OpenClaim := { program := "ytgdokncccldgiaa", sum := "9bdf14c7e10719a594808136eacef8e45625d7898434b93e47a7263add628edb", func := "corollary/corolaw1.FactSets", spec := "factSets", unfollowed := true, recurses := true, plainKeys := false, apart := false, narrowed := true }
def FactSetsUptoSaid : Prop := factSetsUptoRow.holds Try.pinned (OpenSpec.upto factSetsSpec)

/-- 'corolaw1.FactOrder', WHERE WHAT IT READS IS OF BULK AT MOST 1048576: true; the input reads as it did. -/
def factOrderUptoRow : OpenClaim := { program := "ytgdokncccldgiaa", sum := "9bdf14c7e10719a594808136eacef8e45625d7898434b93e47a7263add628edb", func := "corollary/corolaw1.FactOrder", spec := "factOrder", unfollowed := true, recurses := true, plainKeys := false, apart := false, narrowed := true }
def FactOrderUptoSaid : Prop := factOrderUptoRow.holds Try.pinned (OpenSpec.upto factOrderSpec)

/-- 'corolaw4.MatchTells', WHERE WHAT IT READS IS OF BULK AT MOST 1048576: true; the input reads as it did. -/
def matchTellsUptoRow : OpenClaim := { program := "ytgdokncccldgiaa", sum := "9bdf14c7e10719a594808136eacef8e45625d7898434b93e47a7263add628edb", func := "corollary/corolaw4.MatchTells", spec := "matchTells", unfollowed := true, recurses := true, plainKeys := false, apart := false, narrowed := true }
def MatchTellsUptoSaid : Prop := matchTellsUptoRow.holds Try.pinned (OpenSpec.upto matchTellsSpec)

/-- 'corolaw4.MatchSo', WHERE WHAT IT READS IS OF BULK AT MOST 1048576: true; the input reads as it did. -/
def matchSoUptoRow : OpenClaim := { program := "ytgdokncccldgiaa", sum := "9bdf14c7e10719a594808136eacef8e45625d7898434b93e47a7263add628edb", func := "corollary/corolaw4.MatchSo", spec := "matchSo", unfollowed := true, recurses := true, plainKeys := false, apart := false, narrowed := true }
def MatchSoUptoSaid : Prop := matchSoUptoRow.holds Try.pinned (OpenSpec.upto matchSoSpec)

/-- 'corolaw4.MatchAll', WHERE WHAT IT READS IS OF BULK AT MOST 1048576: true; the input reads as it did. -/
def matchAllUptoRow : OpenClaim := { program := "ytgdokncccldgiaa", sum := "9bdf14c7e10719a594808136eacef8e45625d7898434b93e47a7263add628edb", func := "corollary/corolaw4.MatchAll", spec := "matchAll", unfollowed := true, recurses := true, plainKeys := false, apart := false, narrowed := true }
def MatchAllUptoSaid : Prop := matchAllUptoRow.holds Try.pinned (OpenSpec.upto matchAllSpec)

/-- 'corolaw4.MatchOrder', WHERE WHAT IT READS IS OF BULK AT MOST 1048576: true; the input reads as it did. -/
def matchOrderUptoRow : OpenClaim := { program := "ytgdokncccldgiaa", sum := "9bdf14c7e10719a594808136eacef8e45625d7898434b93e47a7263add628edb", func := "corollary/corolaw4.MatchOrder", spec := "matchOrder", unfollowed := true, recurses := true, plainKeys := false, apart := false, narrowed := true }
def MatchOrderUptoSaid : Prop := matchOrderUptoRow.holds Try.pinned (OpenSpec.upto matchOrderSpec)

end Rows
end Go.Proofs.Ytgdokncccldgiaa
