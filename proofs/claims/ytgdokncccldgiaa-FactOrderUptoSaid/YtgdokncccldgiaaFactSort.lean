/-
  slices.SortFunc AT FACTS: a permutation, rising or equal.
-/
import Derived.Test.YtgdokncccldgiaaSortLay
import Derived.Test.YtgdokncccldgiaaSortG
import Derived.Test.YtgdokncccldgiaaCmp
namespace Go.Proofs.Ytgdokncccldgiaa
open Go.RowKit Go.Shelf Go.Sort

theorem enterCompare : ∀ args w, (callFunc 51 args).run Try.prog w = .ok (.enter 51 args) w := enters_of Try.func51 (by kernel_rfl) rfl

theorem sortFacts {B : Nat} {S : Nat → Prop} {w : World} {v : Value} {l : List PFact} (hown : Owned 2 RFact B 57 S w v l) (n1 : l.length ≤ 1073741824) (n2 : ∀ x ∈ l, x.args.length ≤ 1073741824) :
    Calls Try.prog 101 #[v, .func (.func 51) #[] #[]] w fun en w' => en = .returned (.tuple #[]) ∧ ∃ l', l'.Perm l ∧ l'.Pairwise (fun a b => ¬ cmpFact b a < 0) ∧ Owned 2 RFact B 57 S w' v l' ∧ w.grownBy w' v.ownBlock :=
  sort_owned Try.sortFact RFact.steady RFact.one (fun x => x.args.length ≤ 1073741824) Try.isAgg57 Try.sizeOf57 cmpFact3 51 enterCompare
    (fun W x y cx cy hx hy qx _ => by
      obtain ⟨vx, rfl, rx⟩ := hx
      obtain ⟨vy, rfl, ry⟩ := hy
      exact compareFact x y vx vy W rx ry qx)
    hown n2 (by omega)
end Go.Proofs.Ytgdokncccldgiaa
