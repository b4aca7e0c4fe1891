/-
  No cell of these rows narrows 'for every input' (looked for: loops, veiled, ifaces, maps, wideKeys, modest, calm, conditions, laid).
  DERIVED. THE GIVEN ROWS OF THIS SEAT. 4 by the template 'for every input the law returns true; each argument reads behind the call as it read before'; 0 by the template 'total and deterministic' (their statements: YtiiicochdidolaaGreatTotals.lean).
  GIVEN WITH THE SEED: the statements are not yours to turn. If you find one false, say at which input.
  Laid BY PROGRAM, IN A SANDBOX (cutbox-rows.mjs): the forced cells as the released guide's own fill.sh prints them over the translation 80705a263b0b972b… (all of the seat's roots in one cut). By AI agents, Wed Nov 11 2026. No macro, syntax, notation, axiom, sorry.
-/
import Derived.Test.YtiiicochdidolaaGreatChecked
import GoSem.Claim
import GoSem.ClaimJoined
import GoSem.ClaimMapViews
import Derived.JoinedTies
import Derived.KernelRfl
namespace Go.Proofs.YtiiicochdidolaaGreat
/- THE CELL 'sum', in the pinned program and in every row, IS THE sha256 OF THE DUMP (.gsa) THAT YtiiicochdidolaaGreatProg.lean LOADS. Nothing in Lean hashes anything: it is a label: what it is worth is what the hold of that sum in a sandbox is worth. -/
noncomputable def Tryz.pinned : Pinned := { name := "ytiiicochdidolaagreat", sum := "80705a263b0b972b074c4af9d9cb6442c4c871781dd7799e24f8da0c0fa4600c", checked := Tryz.checked }
namespace Rows
def none {H : Type} : Left H := { results := [], args := [] }

/-- 'corolaw8.DeskAsks': WHATEVER THE INPUT: true; the input reads as it did. -/
def deskAsksSpec : ChangeSpec := { name := "deskAsks", fn := fun _ => fun
  | [d1, d2] => { results := [.lit (.bool true)], args := [d1, d2] }
  | _ => none }
def deskAsksRow : OpenClaim := { program := "ytiiicochdidolaagreat", sum := "80705a263b0b972b074c4af9d9cb6442c4c871781dd7799e24f8da0c0fa4600c", func := "corollary/corolaw8.DeskAsks", spec := "deskAsks", unfollowed := true, recurses := true, apart := false }
def DeskAsksSaid : Prop := deskAsksRow.holds Tryz.pinned (OpenSpec.ofChange deskAsksSpec)

/-- ITS FALSE NEIGHBOUR: 'it returns false'. Refute it at one input. -/
def deskAsksWrong : ChangeSpec := { name := "deskAsks", fn := fun _ => fun
  | [d1, d2] => { results := [.lit (.bool false)], args := [d1, d2] }
  | _ => none }
def DeskAsksWrongFalsely : Prop := deskAsksRow.holds Tryz.pinned (OpenSpec.ofChange deskAsksWrong)

/-- 'corolaw8.DeskDone': WHATEVER THE INPUT: true; the input reads as it did. -/
def deskDoneSpec : ChangeSpec := { name := "deskDone", fn := fun _ => fun
  | [d] => { results := [.lit (.bool true)], args := [d] }
  | _ => none }
def deskDoneRow : OpenClaim := { program := "ytiiicochdidolaagreat", sum := "80705a263b0b972b074c4af9d9cb6442c4c871781dd7799e24f8da0c0fa4600c", func := "corollary/corolaw8.DeskDone", spec := "deskDone", unfollowed := true, recurses := true, apart := false }
def DeskDoneSaid : Prop := deskDoneRow.holds Tryz.pinned (OpenSpec.ofChange deskDoneSpec)

/-- ITS FALSE NEIGHBOUR: 'it returns false'. Refute it at one input. -/
def deskDoneWrong : ChangeSpec := { name := "deskDone", fn := fun _ => fun
  | [d] => { results := [.lit (.bool false)], args := [d] }
  | _ => none }
def DeskDoneWrongFalsely : Prop := deskDoneRow.holds Tryz.pinned (OpenSpec.ofChange deskDoneWrong)

/-- 'corolaw8.DeskRefused': WHATEVER THE INPUT: true; the input reads as it did. -/
def deskRefusedSpec : ChangeSpec := { name := "deskRefused", fn := fun _ => fun
  | [d] => { results := [.lit (.bool true)], args := [d] }
  | _ => none }
def deskRefusedRow : OpenClaim := { program := "ytiiicochdidolaagreat", sum := "80705a263b0b972b074c4af9d9cb6442c4c871781dd7799e24f8da0c0fa4600c", func := "corollary/corolaw8.DeskRefused", spec := "deskRefused", unfollowed := true, recurses := true, apart := false }
def DeskRefusedSaid : Prop := deskRefusedRow.holds Tryz.pinned (OpenSpec.ofChange deskRefusedSpec)

/-- ITS FALSE NEIGHBOUR: 'it returns false'. Refute it at one input. -/
def deskRefusedWrong : ChangeSpec := { name := "deskRefused", fn := fun _ => fun
  | [d] => { results := [.lit (.bool false)], args := [d] }
  | _ => none }
def DeskRefusedWrongFalsely : Prop := deskRefusedRow.holds Tryz.pinned (OpenSpec.ofChange deskRefusedWrong)

/-- 'corotop.TopDesk': WHATEVER THE INPUT: true; the input reads as it did. -/
def topDeskSpec : ChangeSpec := { name := "topDesk", fn := fun _ => fun
  | [d1, d2, d3, d4] => { results := [.lit (.bool true)], args := [d1, d2, d3, d4] }
  | _ => none }
def topDeskRow : OpenClaim := { program := "ytiiicochdidolaagreat", sum := "80705a263b0b972b074c4af9d9cb6442c4c871781dd7799e24f8da0c0fa4600c", func := "corollary/corotop.TopDesk", spec := "topDesk", unfollowed := true, recurses := true, apart := false }
def TopDeskSaid : Prop := topDeskRow.holds Tryz.pinned (OpenSpec.ofChange topDeskSpec)

/-- ITS FALSE NEIGHBOUR: 'it returns false'. Refute it at one input. -/
def topDeskWrong : ChangeSpec := { name := "topDesk", fn := fun _ => fun
  | [d1, d2, d3, d4] => { results := [.lit (.bool false)], args := [d1, d2, d3, d4] }
  | _ => none }
def TopDeskWrongFalsely : Prop := topDeskRow.holds Tryz.pinned (OpenSpec.ofChange topDeskWrong)

/- THE SECOND FORM. 'bulk': how many values and letters a reading holds, each counted each time it is reached (what is shared counts as often as it is met; a slice's spare places count too). A statement '..UptoSaid' is the law's where the arguments, and the package variables that the reading takes, are together of bulk at most 1048576: NARROWER than '..Said'. Prove '..Said' where nothing that the law and all that it calls make is longer than what came in: it says more and counts as full. Else prove '..UptoSaid'. A law counts once. -/
mutual
def uptoBulk {H : Type} : DataW H → Nat
  | .lit (.string bytes) => bytes.length + 1
  | .lit _ => 1
  | .nil => 1
  | .ptr d => uptoBulk d + 1
  | .slice elems spare => uptoBulkAll elems + uptoBulkAll spare + 1
  | .agg parts => uptoBulkAll parts + 1
  | .iface _ d => uptoBulk d + 1
  | .map entries => uptoBulkEntries entries + 1
  | .held _ => 1
def uptoBulkAll {H : Type} : List (DataW H) → Nat
  | [] => 0
  | d :: r => uptoBulk d + uptoBulkAll r
def uptoBulkEntries {H : Type} : List (Lit × DataW H) → Nat
  | [] => 0
  | x :: r => uptoBulkEntry x + uptoBulkEntries r
def uptoBulkEntry {H : Type} : Lit × DataW H → Nat
  | (.string bytes, d) => bytes.length + uptoBulk d + 1
  | (_, d) => uptoBulk d + 1
 end
def uptoSmall : (H : Type) → List (DataW H) → Bool := fun _ ds => decide (uptoBulkAll ds ≤ 1048576)
def OpenSpec.upto (s : _root_.Go.ChangeSpec) : _root_.Go.OpenSpec := { _root_.Go.OpenSpec.ofChange s with cond := some uptoSmall }

/-- 'corolaw8.DeskAsks', WHERE WHAT IT READS IS OF BULK AT MOST 1048576: true; the input reads as it did. -/
def deskAsksUptoRow : OpenClaim := { program := "ytiiicochdidolaagreat", sum := "80705a263b0b972b074c4af9d9cb6442c4c871781dd7799e24f8da0c0fa4600c", func := "corollary/corolaw8.DeskAsks", spec := "deskAsks", unfollowed := true, recurses := true, apart := false, narrowed := true }
def DeskAsksUptoSaid : Prop := deskAsksUptoRow.holds Tryz.pinned (OpenSpec.upto deskAsksSpec)

/-- 'corolaw8.DeskDone', WHERE WHAT IT READS IS OF BULK AT MOST 1048576: true; the input reads as it did. -/
def deskDoneUptoRow : OpenClaim := { program := "ytiiicochdidolaagreat", sum := "80705a263b0b972b074c4af9d9cb6442c4c871781dd7799e24f8da0c0fa4600c", func := "corollary/corolaw8.DeskDone", spec := "deskDone", unfollowed := true, recurses := true, apart := false, narrowed := true }
def DeskDoneUptoSaid : Prop := deskDoneUptoRow.holds Tryz.pinned (OpenSpec.upto deskDoneSpec)

/-- 'corolaw8.DeskRefused', WHERE WHAT IT READS IS OF BULK AT MOST 1048576: true; the input reads as it did. -/
def deskRefusedUptoRow : OpenClaim := { program := "ytiiicochdidolaagreat", sum := "80705a263b0b972b074c4af9d9cb6442c4c871781dd7799e24f8da0c0fa4600c", func := "corollary/corolaw8.DeskRefused", spec := "deskRefused", unfollowed := true, recurses := true, apart := false, narrowed := true }
def DeskRefusedUptoSaid : Prop := deskRefusedUptoRow.holds Tryz.pinned (OpenSpec.upto deskRefusedSpec)

/-- 'corotop.TopDesk', WHERE WHAT IT READS IS OF BULK AT MOST 1048576: true; the input reads as it did. -/
def topDeskUptoRow : OpenClaim := { program := "ytiiicochdidolaagreat", sum := "80705a263b0b972b074c4af9d9cb6442c4c871781dd7799e24f8da0c0fa4600c", func := "corollary/corotop.TopDesk", spec := "topDesk", unfollowed := true, recurses := true, apart := false, narrowed := true }
def TopDeskUptoSaid : Prop := topDeskUptoRow.holds Tryz.pinned (OpenSpec.upto topDeskSpec)

end Rows
end Go.Proofs.YtiiicochdidolaaGreat
