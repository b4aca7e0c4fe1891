/-
  NARROWER THAN 'FOR EVERY INPUT', by the rows' own cells (each row's printed sentence says how): ProofRight: loops.
  DERIVED. THE GIVEN ROWS OF THIS SEAT. 3 by the template 'for every input the law returns true; each argument reads behind the call as it read before'; 0 by the template 'total and deterministic' (their statements: YtoffggiaecclmaaGreatTotals.lean).
  GIVEN WITH THE SEED: the statements are not yours to turn. If you find one false, say at which input.
  Laid BY PROGRAM, IN A SANDBOX (cutbox-rows.mjs): the forced cells as the released guide's own fill.sh prints them over the translation d09d4ed440804e1b… (all of the seat's roots in one cut). By AI agents, Wed Nov 11 2026. No macro, syntax, notation, axiom, sorry.
-/
import Derived.Test.YtoffggiaecclmaaGreatChecked
import GoSem.Claim
import GoSem.ClaimJoined
import GoSem.ClaimMapViews
import Derived.JoinedTies
import Derived.KernelRfl
namespace Go.Proofs.YtoffggiaecclmaaGreat
/- THE CELL 'sum', in the pinned program and in every row, IS THE sha256 OF THE DUMP (.gsa) THAT YtoffggiaecclmaaGreatProg.lean LOADS. Nothing in Lean hashes anything: it is a label: what it is worth is what the hold of that sum in a sandbox is worth. -/
noncomputable def Tryz.pinned : Pinned := { name := "ytoffggiaecclmaagreat", sum := "d09d4ed440804e1b22e0437dea069278e5d434b6e467d8be833fc4808d67ddd6", checked := Tryz.checked }
namespace Rows
def none {H : Type} : Left H := { results := [], args := [] }

/-- 'corolaw7.ProofRight': WHATEVER THE INPUT: true; the input reads as it did. -/
def proofRightSpec : ChangeSpec := { name := "proofRight", fn := fun _ => fun
  | [d1, d2, d3] => { results := [.lit (.bool true)], args := [d1, d2, d3] }
  | _ => none }
def proofRightRow : OpenClaim := { program := "ytoffggiaecclmaagreat", sum := "d09d4ed440804e1b22e0437dea069278e5d434b6e467d8be833fc4808d67ddd6", func := "corollary/corolaw7.ProofRight", spec := "proofRight", unfollowed := true, recurses := true, loops := true, apart := false }
def ProofRightSaid : Prop := proofRightRow.holds Tryz.pinned (OpenSpec.ofChange proofRightSpec)

/-- ITS FALSE NEIGHBOUR: 'it returns false'. Refute it at one input. -/
def proofRightWrong : ChangeSpec := { name := "proofRight", fn := fun _ => fun
  | [d1, d2, d3] => { results := [.lit (.bool false)], args := [d1, d2, d3] }
  | _ => none }
def ProofRightWrongFalsely : Prop := proofRightRow.holds Tryz.pinned (OpenSpec.ofChange proofRightWrong)

/-- 'corolaw7.ProofAll': WHATEVER THE INPUT: true; the input reads as it did. -/
def proofAllSpec : ChangeSpec := { name := "proofAll", fn := fun _ => fun
  | [d1, d2, d3] => { results := [.lit (.bool true)], args := [d1, d2, d3] }
  | _ => none }
def proofAllRow : OpenClaim := { program := "ytoffggiaecclmaagreat", sum := "d09d4ed440804e1b22e0437dea069278e5d434b6e467d8be833fc4808d67ddd6", func := "corollary/corolaw7.ProofAll", spec := "proofAll", unfollowed := true, recurses := true, apart := false }
def ProofAllSaid : Prop := proofAllRow.holds Tryz.pinned (OpenSpec.ofChange proofAllSpec)

/-- ITS FALSE NEIGHBOUR: 'it returns false'. Refute it at one input. -/
def proofAllWrong : ChangeSpec := { name := "proofAll", fn := fun _ => fun
  | [d1, d2, d3] => { results := [.lit (.bool false)], args := [d1, d2, d3] }
  | _ => none }
def ProofAllWrongFalsely : Prop := proofAllRow.holds Tryz.pinned (OpenSpec.ofChange proofAllWrong)

/-- 'corolaw7.ProofBent': WHATEVER THE INPUT: true; the input reads as it did. -/
def proofBentSpec : ChangeSpec := { name := "proofBent", fn := fun _ => fun
  | [d1, d2, d3, d4, d5] => { results := [.lit (.bool true)], args := [d1, d2, d3, d4, d5] }
  | _ => none }
def proofBentRow : OpenClaim := { program := "ytoffggiaecclmaagreat", sum := "d09d4ed440804e1b22e0437dea069278e5d434b6e467d8be833fc4808d67ddd6", func := "corollary/corolaw7.ProofBent", spec := "proofBent", unfollowed := true, recurses := true, apart := false }
def ProofBentSaid : Prop := proofBentRow.holds Tryz.pinned (OpenSpec.ofChange proofBentSpec)

/-- ITS FALSE NEIGHBOUR: 'it returns false'. Refute it at one input. -/
def proofBentWrong : ChangeSpec := { name := "proofBent", fn := fun _ => fun
  | [d1, d2, d3, d4, d5] => { results := [.lit (.bool false)], args := [d1, d2, d3, d4, d5] }
  | _ => none }
def ProofBentWrongFalsely : Prop := proofBentRow.holds Tryz.pinned (OpenSpec.ofChange proofBentWrong)

/- THE SECOND FORM. 'bulk': how many values and letters a reading holds, each counted each time it is reached (what is shared counts as often as it is met; a slice's spare places count too). A statement '..UptoSaid' is the law's where the arguments, and the package variables that the reading takes, are together of bulk at most 1048576: NARROWER than '..Said'. Prove '..Said' where nothing that the law and all that it calls make is longer than what came in: it says more and counts as full. Else prove '..UptoSaid'. A law counts once. -/
mutual
def uptoBulk {H : Type} : DataW H → Nat
  | .lit (.string bytes) => bytes.length + 1
  | .lit _ => 1
  | .nil => 1
  | .ptr d => uptoBulk d + 1
  | .slice elems spare => uptoBulkAll elems + uptoBulkAll spare + 1
  | .agg parts => uptoBulkAll parts + 1
  | .iface _ d => uptoBulk d + 1
  | .map entries => uptoBulkEntries entries + 1
  | .held _ => 1
def uptoBulkAll {H : Type} : List (DataW H) → Nat
  | [] => 0
  | d :: r => uptoBulk d + uptoBulkAll r
def uptoBulkEntries {H : Type} : List (Lit × DataW H) → Nat
  | [] => 0
  | x :: r => uptoBulkEntry x + uptoBulkEntries r
def uptoBulkEntry {H : Type} : Lit × DataW H → Nat
  | (.string bytes, d) => bytes.length + uptoBulk d + 1
  | (_, d) => uptoBulk d + 1
 end
def uptoSmall : (H : Type) → List (DataW H) → Bool := fun _ ds => decide (uptoBulkAll ds ≤ 1048576)
def OpenSpec.upto (s : _root_.Go.ChangeSpec) : _root_.Go.OpenSpec := { _root_.Go.OpenSpec.ofChange s with cond := some uptoSmall }

/-- 'corolaw7.ProofRight', WHERE WHAT IT READS IS OF BULK AT MOST 1048576: true; the input reads as it did. -/
def proofRightUptoRow : OpenClaim := { program := "ytoffggiaecclmaagreat", sum := "d09d4ed440804e1b22e0437dea069278e5d434b6e467d8be833fc4808d67ddd6", func := "corollary/corolaw7.ProofRight", spec := "proofRight", unfollowed := true, recurses := true, loops := true, apart := false, narrowed := true }
def ProofRightUptoSaid : Prop := proofRightUptoRow.holds Tryz.pinned (OpenSpec.upto proofRightSpec)

/-- 'corolaw7.ProofAll', WHERE WHAT IT READS IS OF BULK AT MOST 1048576: true; the input reads as it did. -/
def proofAllUptoRow : OpenClaim := { program := "ytoffggiaecclmaagreat", sum := "d09d4ed440804e1b22e0437dea069278e5d434b6e467d8be833fc4808d67ddd6", func := "corollary/corolaw7.ProofAll", spec := "proofAll", unfollowed := true, recurses := true, apart := false, narrowed := true }
def ProofAllUptoSaid : Prop := proofAllUptoRow.holds Tryz.pinned (OpenSpec.upto proofAllSpec)

/-- 'corolaw7.ProofBent', WHERE WHAT IT READS IS OF BULK AT MOST 1048576: true; the input reads as it did. -/
def proofBentUptoRow : OpenClaim := { program := "ytoffggiaecclmaagreat", sum := "d09d4ed440804e1b22e0437dea069278e5d434b6e467d8be833fc4808d67ddd6", func := "corollary/corolaw7.ProofBent", spec := "proofBent", unfollowed := true, recurses := true, apart := false, narrowed := true }
def ProofBentUptoSaid : Prop := proofBentUptoRow.holds Tryz.pinned (OpenSpec.upto proofBentSpec)

end Rows
end Go.Proofs.YtoffggiaecclmaaGreat
