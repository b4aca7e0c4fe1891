/-
  No cell of these rows narrows 'for every input' (looked for: loops, veiled, ifaces, maps, wideKeys, modest, calm, conditions, laid).
  DERIVED. THE GIVEN ROWS OF THIS SEAT. 11 by the template 'for every input the law returns true; each argument reads behind the call as it read before'; 0 by the template 'total and deterministic' (their statements: YtbbiapgkcekabaaGreatTotals.lean).
  GIVEN WITH THE SEED: the statements are not yours to turn. If you find one false, say at which input.
  Laid BY PROGRAM, IN A SANDBOX (cutbox-rows.mjs): the forced cells as the released guide's own fill.sh prints them over the translation f8ea6c4a6bfda33b… (all of the seat's roots in one cut). By AI agents, Wed Nov 11 2026. No macro, syntax, notation, axiom, sorry.
-/
import Derived.Test.YtbbiapgkcekabaaGreatChecked
import GoSem.Claim
import GoSem.ClaimJoined
import GoSem.ClaimMapViews
import Derived.JoinedTies
import Derived.KernelRfl
namespace Go.Proofs.YtbbiapgkcekabaaGreat
/- THE CELL 'sum', in the pinned program and in every row, IS THE sha256 OF THE DUMP (.gsa) THAT YtbbiapgkcekabaaGreatProg.lean LOADS. Nothing in Lean hashes anything: it is a label: what it is worth is what the hold of that sum in a sandbox is worth. -/
noncomputable def Tryz.pinned : Pinned := { name := "ytbbiapgkcekabaagreat", sum := "f8ea6c4a6bfda33b55b478dbe3299159401761868db670e5dabf4317e52b4cd6", checked := Tryz.checked }
namespace Rows
def none {H : Type} : Left H := { results := [], args := [] }

/-- 'corolaw5.NaiveTells': WHATEVER THE INPUT: true; the input reads as it did. -/
def naiveTellsSpec : ChangeSpec := { name := "naiveTells", fn := fun _ => fun
  | [d1, d2, d3] => { results := [.lit (.bool true)], args := [d1, d2, d3] }
  | _ => none }
def naiveTellsRow : OpenClaim := { program := "ytbbiapgkcekabaagreat", sum := "f8ea6c4a6bfda33b55b478dbe3299159401761868db670e5dabf4317e52b4cd6", func := "corollary/corolaw5.NaiveTells", spec := "naiveTells", unfollowed := true, recurses := true, plainKeys := false, apart := false }
def NaiveTellsSaid : Prop := naiveTellsRow.holds Tryz.pinned (OpenSpec.ofChange naiveTellsSpec)

/-- ITS FALSE NEIGHBOUR: 'it returns false'. Refute it at one input. -/
def naiveTellsWrong : ChangeSpec := { name := "naiveTells", fn := fun _ => fun
  | [d1, d2, d3] => { results := [.lit (.bool false)], args := [d1, d2, d3] }
  | _ => none }
def NaiveTellsWrongFalsely : Prop := naiveTellsRow.holds Tryz.pinned (OpenSpec.ofChange naiveTellsWrong)

/-- 'corolaw6.RoundTells': WHATEVER THE INPUT: true; the input reads as it did. -/
def roundTellsSpec : ChangeSpec := { name := "roundTells", fn := fun _ => fun
  | [d1, d2, d3, d4] => { results := [.lit (.bool true)], args := [d1, d2, d3, d4] }
  | _ => none }
def roundTellsRow : OpenClaim := { program := "ytbbiapgkcekabaagreat", sum := "f8ea6c4a6bfda33b55b478dbe3299159401761868db670e5dabf4317e52b4cd6", func := "corollary/corolaw6.RoundTells", spec := "roundTells", unfollowed := true, recurses := true, plainKeys := false, apart := false }
def RoundTellsSaid : Prop := roundTellsRow.holds Tryz.pinned (OpenSpec.ofChange roundTellsSpec)

/-- ITS FALSE NEIGHBOUR: 'it returns false'. Refute it at one input. -/
def roundTellsWrong : ChangeSpec := { name := "roundTells", fn := fun _ => fun
  | [d1, d2, d3, d4] => { results := [.lit (.bool false)], args := [d1, d2, d3, d4] }
  | _ => none }
def RoundTellsWrongFalsely : Prop := roundTellsRow.holds Tryz.pinned (OpenSpec.ofChange roundTellsWrong)

/-- 'corolaw5.NaiveNeeded': WHATEVER THE INPUT: true; the input reads as it did. -/
def naiveNeededSpec : ChangeSpec := { name := "naiveNeeded", fn := fun _ => fun
  | [d1, d2] => { results := [.lit (.bool true)], args := [d1, d2] }
  | _ => none }
def naiveNeededRow : OpenClaim := { program := "ytbbiapgkcekabaagreat", sum := "f8ea6c4a6bfda33b55b478dbe3299159401761868db670e5dabf4317e52b4cd6", func := "corollary/corolaw5.NaiveNeeded", spec := "naiveNeeded", unfollowed := true, recurses := true, plainKeys := false, apart := false }
def NaiveNeededSaid : Prop := naiveNeededRow.holds Tryz.pinned (OpenSpec.ofChange naiveNeededSpec)

/-- ITS FALSE NEIGHBOUR: 'it returns false'. Refute it at one input. -/
def naiveNeededWrong : ChangeSpec := { name := "naiveNeeded", fn := fun _ => fun
  | [d1, d2] => { results := [.lit (.bool false)], args := [d1, d2] }
  | _ => none }
def NaiveNeededWrongFalsely : Prop := naiveNeededRow.holds Tryz.pinned (OpenSpec.ofChange naiveNeededWrong)

/-- 'corolaw5.NaiveRules': WHATEVER THE INPUT: true; the input reads as it did. -/
def naiveRulesSpec : ChangeSpec := { name := "naiveRules", fn := fun _ => fun
  | [d1, d2] => { results := [.lit (.bool true)], args := [d1, d2] }
  | _ => none }
def naiveRulesRow : OpenClaim := { program := "ytbbiapgkcekabaagreat", sum := "f8ea6c4a6bfda33b55b478dbe3299159401761868db670e5dabf4317e52b4cd6", func := "corollary/corolaw5.NaiveRules", spec := "naiveRules", unfollowed := true, recurses := true, plainKeys := false, apart := false }
def NaiveRulesSaid : Prop := naiveRulesRow.holds Tryz.pinned (OpenSpec.ofChange naiveRulesSpec)

/-- ITS FALSE NEIGHBOUR: 'it returns false'. Refute it at one input. -/
def naiveRulesWrong : ChangeSpec := { name := "naiveRules", fn := fun _ => fun
  | [d1, d2] => { results := [.lit (.bool false)], args := [d1, d2] }
  | _ => none }
def NaiveRulesWrongFalsely : Prop := naiveRulesRow.holds Tryz.pinned (OpenSpec.ofChange naiveRulesWrong)

/-- 'corolaw5.NaiveHeads': WHATEVER THE INPUT: true; the input reads as it did. -/
def naiveHeadsSpec : ChangeSpec := { name := "naiveHeads", fn := fun _ => fun
  | [d1, d2, d3] => { results := [.lit (.bool true)], args := [d1, d2, d3] }
  | _ => none }
def naiveHeadsRow : OpenClaim := { program := "ytbbiapgkcekabaagreat", sum := "f8ea6c4a6bfda33b55b478dbe3299159401761868db670e5dabf4317e52b4cd6", func := "corollary/corolaw5.NaiveHeads", spec := "naiveHeads", unfollowed := true, recurses := true, plainKeys := false, apart := false }
def NaiveHeadsSaid : Prop := naiveHeadsRow.holds Tryz.pinned (OpenSpec.ofChange naiveHeadsSpec)

/-- ITS FALSE NEIGHBOUR: 'it returns false'. Refute it at one input. -/
def naiveHeadsWrong : ChangeSpec := { name := "naiveHeads", fn := fun _ => fun
  | [d1, d2, d3] => { results := [.lit (.bool false)], args := [d1, d2, d3] }
  | _ => none }
def NaiveHeadsWrongFalsely : Prop := naiveHeadsRow.holds Tryz.pinned (OpenSpec.ofChange naiveHeadsWrong)

/-- 'corolaw5.NaiveModel': WHATEVER THE INPUT: true; the input reads as it did. -/
def naiveModelSpec : ChangeSpec := { name := "naiveModel", fn := fun _ => fun
  | [d1, d2] => { results := [.lit (.bool true)], args := [d1, d2] }
  | _ => none }
def naiveModelRow : OpenClaim := { program := "ytbbiapgkcekabaagreat", sum := "f8ea6c4a6bfda33b55b478dbe3299159401761868db670e5dabf4317e52b4cd6", func := "corollary/corolaw5.NaiveModel", spec := "naiveModel", unfollowed := true, recurses := true, plainKeys := false, apart := false }
def NaiveModelSaid : Prop := naiveModelRow.holds Tryz.pinned (OpenSpec.ofChange naiveModelSpec)

/-- ITS FALSE NEIGHBOUR: 'it returns false'. Refute it at one input. -/
def naiveModelWrong : ChangeSpec := { name := "naiveModel", fn := fun _ => fun
  | [d1, d2] => { results := [.lit (.bool false)], args := [d1, d2] }
  | _ => none }
def NaiveModelWrongFalsely : Prop := naiveModelRow.holds Tryz.pinned (OpenSpec.ofChange naiveModelWrong)

/-- 'corolaw5.NaiveLeast': WHATEVER THE INPUT: true; the input reads as it did. -/
def naiveLeastSpec : ChangeSpec := { name := "naiveLeast", fn := fun _ => fun
  | [d1, d2, d3] => { results := [.lit (.bool true)], args := [d1, d2, d3] }
  | _ => none }
def naiveLeastRow : OpenClaim := { program := "ytbbiapgkcekabaagreat", sum := "f8ea6c4a6bfda33b55b478dbe3299159401761868db670e5dabf4317e52b4cd6", func := "corollary/corolaw5.NaiveLeast", spec := "naiveLeast", unfollowed := true, recurses := true, plainKeys := false, apart := false }
def NaiveLeastSaid : Prop := naiveLeastRow.holds Tryz.pinned (OpenSpec.ofChange naiveLeastSpec)

/-- ITS FALSE NEIGHBOUR: 'it returns false'. Refute it at one input. -/
def naiveLeastWrong : ChangeSpec := { name := "naiveLeast", fn := fun _ => fun
  | [d1, d2, d3] => { results := [.lit (.bool false)], args := [d1, d2, d3] }
  | _ => none }
def NaiveLeastWrongFalsely : Prop := naiveLeastRow.holds Tryz.pinned (OpenSpec.ofChange naiveLeastWrong)

/-- 'corolaw6.RoundParts': WHATEVER THE INPUT: true; the input reads as it did. -/
def roundPartsSpec : ChangeSpec := { name := "roundParts", fn := fun _ => fun
  | [d1, d2, d3, d4] => { results := [.lit (.bool true)], args := [d1, d2, d3, d4] }
  | _ => none }
def roundPartsRow : OpenClaim := { program := "ytbbiapgkcekabaagreat", sum := "f8ea6c4a6bfda33b55b478dbe3299159401761868db670e5dabf4317e52b4cd6", func := "corollary/corolaw6.RoundParts", spec := "roundParts", unfollowed := true, recurses := true, plainKeys := false, apart := false }
def RoundPartsSaid : Prop := roundPartsRow.holds Tryz.pinned (OpenSpec.ofChange roundPartsSpec)

/-- ITS FALSE NEIGHBOUR: 'it returns false'. Refute it at one input. -/
def roundPartsWrong : ChangeSpec := { name := "roundParts", fn := fun _ => fun
  | [d1, d2, d3, d4] => { results := [.lit (.bool false)], args := [d1, d2, d3, d4] }
  | _ => none }
def RoundPartsWrongFalsely : Prop := roundPartsRow.holds Tryz.pinned (OpenSpec.ofChange roundPartsWrong)

/-- 'corolaw6.RoundRight': WHATEVER THE INPUT: true; the input reads as it did. -/
def roundRightSpec : ChangeSpec := { name := "roundRight", fn := fun _ => fun
  | [d1, d2, d3] => { results := [.lit (.bool true)], args := [d1, d2, d3] }
  | _ => none }
def roundRightRow : OpenClaim := { program := "ytbbiapgkcekabaagreat", sum := "f8ea6c4a6bfda33b55b478dbe3299159401761868db670e5dabf4317e52b4cd6", func := "corollary/corolaw6.RoundRight", spec := "roundRight", unfollowed := true, recurses := true, plainKeys := false, apart := false }
def RoundRightSaid : Prop := roundRightRow.holds Tryz.pinned (OpenSpec.ofChange roundRightSpec)

/-- ITS FALSE NEIGHBOUR: 'it returns false'. Refute it at one input. -/
def roundRightWrong : ChangeSpec := { name := "roundRight", fn := fun _ => fun
  | [d1, d2, d3] => { results := [.lit (.bool false)], args := [d1, d2, d3] }
  | _ => none }
def RoundRightWrongFalsely : Prop := roundRightRow.holds Tryz.pinned (OpenSpec.ofChange roundRightWrong)

/-- 'corolaw6.RoundTold': WHATEVER THE INPUT: true; the input reads as it did. -/
def roundToldSpec : ChangeSpec := { name := "roundTold", fn := fun _ => fun
  | [d1, d2] => { results := [.lit (.bool true)], args := [d1, d2] }
  | _ => none }
def roundToldRow : OpenClaim := { program := "ytbbiapgkcekabaagreat", sum := "f8ea6c4a6bfda33b55b478dbe3299159401761868db670e5dabf4317e52b4cd6", func := "corollary/corolaw6.RoundTold", spec := "roundTold", unfollowed := true, recurses := true, plainKeys := false, apart := false }
def RoundToldSaid : Prop := roundToldRow.holds Tryz.pinned (OpenSpec.ofChange roundToldSpec)

/-- ITS FALSE NEIGHBOUR: 'it returns false'. Refute it at one input. -/
def roundToldWrong : ChangeSpec := { name := "roundTold", fn := fun _ => fun
  | [d1, d2] => { results := [.lit (.bool false)], args := [d1, d2] }
  | _ => none }
def RoundToldWrongFalsely : Prop := roundToldRow.holds Tryz.pinned (OpenSpec.ofChange roundToldWrong)

/-- 'corolaw6.RoundSame': WHATEVER THE INPUT: true; the input reads as it did. -/
def roundSameSpec : ChangeSpec := { name := "roundSame", fn := fun _ => fun
  | [d1, d2] => { results := [.lit (.bool true)], args := [d1, d2] }
  | _ => none }
def roundSameRow : OpenClaim := { program := "ytbbiapgkcekabaagreat", sum := "f8ea6c4a6bfda33b55b478dbe3299159401761868db670e5dabf4317e52b4cd6", func := "corollary/corolaw6.RoundSame", spec := "roundSame", unfollowed := true, recurses := true, plainKeys := false, apart := false }
def RoundSameSaid : Prop := roundSameRow.holds Tryz.pinned (OpenSpec.ofChange roundSameSpec)

/-- ITS FALSE NEIGHBOUR: 'it returns false'. Refute it at one input. -/
def roundSameWrong : ChangeSpec := { name := "roundSame", fn := fun _ => fun
  | [d1, d2] => { results := [.lit (.bool false)], args := [d1, d2] }
  | _ => none }
def RoundSameWrongFalsely : Prop := roundSameRow.holds Tryz.pinned (OpenSpec.ofChange roundSameWrong)

/- THE SECOND FORM. 'bulk': how many values and letters a reading holds, each counted each time it is reached (what is shared counts as often as it is met; a slice's spare places count too). A statement '..UptoSaid' is the law's where the arguments, and the package variables that the reading takes, are together of bulk at most 1048576: NARROWER than '..Said'. Prove '..Said' where nothing that the law and all that it calls make is longer than what came in: it says more and counts as full. Else prove '..UptoSaid'. A law counts once. -/
mutual
def uptoBulk {H : Type} : DataW H → Nat
  | .lit (.string bytes) => bytes.length + 1
  | .lit _ => 1
  | .nil => 1
  | .ptr d => uptoBulk d + 1
  | .slice elems spare => uptoBulkAll elems + uptoBulkAll spare + 1
  | .agg parts => uptoBulkAll parts + 1
  | .iface _ d => uptoBulk d + 1
  | .map entries => uptoBulkEntries entries + 1
  | .held _ => 1
def uptoBulkAll {H : Type} : List (DataW H) → Nat
  | [] => 0
  | d :: r => uptoBulk d + uptoBulkAll r
def uptoBulkEntries {H : Type} : List (Lit × DataW H) → Nat
  | [] => 0
  | x :: r => uptoBulkEntry x + uptoBulkEntries r
def uptoBulkEntry {H : Type} : Lit × DataW H → Nat
  | (.string bytes, d) => bytes.length + uptoBulk d + 1
  | (_, d) => uptoBulk d + 1
 end
def uptoSmall : (H : Type) → List (DataW H) → Bool := fun _ ds => decide (uptoBulkAll ds ≤ 1048576)
def OpenSpec.upto (s : _root_.Go.ChangeSpec) : _root_.Go.OpenSpec := { _root_.Go.OpenSpec.ofChange s with cond := some uptoSmall }

/-- 'corolaw5.NaiveTells', WHERE WHAT IT READS IS OF BULK AT MOST 1048576: true; the input reads as it did. -/
def naiveTellsUptoRow : OpenClaim := { program := "ytbbiapgkcekabaagreat", sum := "f8ea6c4a6bfda33b55b478dbe3299159401761868db670e5dabf4317e52b4cd6", func := "corollary/corolaw5.NaiveTells", spec := "naiveTells", unfollowed := true, recurses := true, plainKeys := false, apart := false, narrowed := true }
def NaiveTellsUptoSaid : Prop := naiveTellsUptoRow.holds Tryz.pinned (OpenSpec.upto naiveTellsSpec)

/-- 'corolaw6.RoundTells', WHERE WHAT IT READS IS OF BULK AT MOST 1048576: true; the input reads as it did. -/
def roundTellsUptoRow : OpenClaim := { program := "ytbbiapgkcekabaagreat", sum := "f8ea6c4a6bfda33b55b478dbe3299159401761868db670e5dabf4317e52b4cd6", func := "corollary/corolaw6.RoundTells", spec := "roundTells", unfollowed := true, recurses := true, plainKeys := false, apart := false, narrowed := true }
def RoundTellsUptoSaid : Prop := roundTellsUptoRow.holds Tryz.pinned (OpenSpec.upto roundTellsSpec)

/-- 'corolaw5.NaiveNeeded', WHERE WHAT IT READS IS OF BULK AT MOST 1048576: true; the input reads as it did. -/
def naiveNeededUptoRow : OpenClaim := { program := "ytbbiapgkcekabaagreat", sum := "f8ea6c4a6bfda33b55b478dbe3299159401761868db670e5dabf4317e52b4cd6", func := "corollary/corolaw5.NaiveNeeded", spec := "naiveNeeded", unfollowed := true, recurses := true, plainKeys := false, apart := false, narrowed := true }
def NaiveNeededUptoSaid : Prop := naiveNeededUptoRow.holds Tryz.pinned (OpenSpec.upto naiveNeededSpec)

/-- 'corolaw5.NaiveRules', WHERE WHAT IT READS IS OF BULK AT MOST 1048576: true; the input reads as it did. -/
def naiveRulesUptoRow : OpenClaim := { program := "ytbbiapgkcekabaagreat", sum := "f8ea6c4a6bfda33b55b478dbe3299159401761868db670e5dabf4317e52b4cd6", func := "corollary/corolaw5.NaiveRules", spec := "naiveRules", unfollowed := true, recurses := true, plainKeys := false, apart := false, narrowed := true }
def NaiveRulesUptoSaid : Prop := naiveRulesUptoRow.holds Tryz.pinned (OpenSpec.upto naiveRulesSpec)

/-- 'corolaw5.NaiveHeads', WHERE WHAT IT READS IS OF BULK AT MOST 1048576: true; the input reads as it did. -/
def naiveHeadsUptoRow : OpenClaim := { program := "ytbbiapgkcekabaagreat", sum := "f8ea6c4a6bfda33b55b478dbe3299159401761868db670e5dabf4317e52b4cd6", func := "corollary/corolaw5.NaiveHeads", spec := "naiveHeads", unfollowed := true, recurses := true, plainKeys := false, apart := false, narrowed := true }
def NaiveHeadsUptoSaid : Prop := naiveHeadsUptoRow.holds Tryz.pinned (OpenSpec.upto naiveHeadsSpec)

/-- 'corolaw5.NaiveModel', WHERE WHAT IT READS IS OF BULK AT MOST 1048576: true; the input reads as it did. -/
def naiveModelUptoRow : OpenClaim := { program := "ytbbiapgkcekabaagreat", sum := "f8ea6c4a6bfda33b55b478dbe3299159401761868db670e5dabf4317e52b4cd6", func := "corollary/corolaw5.NaiveModel", spec := "naiveModel", unfollowed := true, recurses := true, plainKeys := false, apart := false, narrowed := true }
def NaiveModelUptoSaid : Prop := naiveModelUptoRow.holds Tryz.pinned (OpenSpec.upto naiveModelSpec)

/-- 'corolaw5.NaiveLeast', WHERE WHAT IT READS IS OF BULK AT MOST 1048576: true; the input reads as it did. -/
def naiveLeastUptoRow : OpenClaim := { program := "ytbbiapgkcekabaagreat", sum := "f8ea6c4a6bfda33b55b478dbe3299159401761868db670e5dabf4317e52b4cd6", func := "corollary/corolaw5.NaiveLeast", spec := "naiveLeast", unfollowed := true, recurses := true, plainKeys := false, apart := false, narrowed := true }
def NaiveLeastUptoSaid : Prop := naiveLeastUptoRow.holds Tryz.pinned (OpenSpec.upto naiveLeastSpec)

/-- 'corolaw6.RoundParts', WHERE WHAT IT READS IS OF BULK AT MOST 1048576: true; the input reads as it did. -/
def roundPartsUptoRow : OpenClaim := { program := "ytbbiapgkcekabaagreat", sum := "f8ea6c4a6bfda33b55b478dbe3299159401761868db670e5dabf4317e52b4cd6", func := "corollary/corolaw6.RoundParts", spec := "roundParts", unfollowed := true, recurses := true, plainKeys := false, apart := false, narrowed := true }
def RoundPartsUptoSaid : Prop := roundPartsUptoRow.holds Tryz.pinned (OpenSpec.upto roundPartsSpec)

/-- 'corolaw6.RoundRight', WHERE WHAT IT READS IS OF BULK AT MOST 1048576: true; the input reads as it did. -/
def roundRightUptoRow : OpenClaim := { program := "ytbbiapgkcekabaagreat", sum := "f8ea6c4a6bfda33b55b478dbe3299159401761868db670e5dabf4317e52b4cd6", func := "corollary/corolaw6.RoundRight", spec := "roundRight", unfollowed := true, recurses := true, plainKeys := false, apart := false, narrowed := true }
def RoundRightUptoSaid : Prop := roundRightUptoRow.holds Tryz.pinned (OpenSpec.upto roundRightSpec)

/-- 'corolaw6.RoundTold', WHERE WHAT IT READS IS OF BULK AT MOST 1048576: true; the input reads as it did. -/
def roundToldUptoRow : OpenClaim := { program := "ytbbiapgkcekabaagreat", sum := "f8ea6c4a6bfda33b55b478dbe3299159401761868db670e5dabf4317e52b4cd6", func := "corollary/corolaw6.RoundTold", spec := "roundTold", unfollowed := true, recurses := true, plainKeys := false, apart := false, narrowed := true }
def RoundToldUptoSaid : Prop := roundToldUptoRow.holds Tryz.pinned (OpenSpec.upto roundToldSpec)

/-- 'corolaw6.RoundSame', WHERE WHAT IT READS IS OF BULK AT MOST 1048576: true; the input reads as it did. -/
def roundSameUptoRow : OpenClaim := { program := "ytbbiapgkcekabaagreat", sum := "f8ea6c4a6bfda33b55b478dbe3299159401761868db670e5dabf4317e52b4cd6", func := "corollary/corolaw6.RoundSame", spec := "roundSame", unfollowed := true, recurses := true, plainKeys := false, apart := false, narrowed := true }
def RoundSameUptoSaid : Prop := roundSameUptoRow.holds Tryz.pinned (OpenSpec.upto roundSameSpec)

end Rows
end Go.Proofs.YtbbiapgkcekabaaGreat
