/-
  PLAIN: rules of little bulk are small.
-/
import Derived.Test.YtobbjapmdpkogaaCheckW3
import Derived.Test.YtobbjapmdpkogaaEntry
namespace Go.Proofs.Ytobbjapmdpkogaa

theorem atom_small {a : PAtom} : a.name.size ≤ sizeAtom a ∧ a.terms.length ≤ sizeAtom a ∧ ∀ t ∈ a.terms, t.name.size ≤ sizeAtom a := by
  have h2 := sizeL_le (size := sizeTerm) openTerm.one a.terms
  refine ⟨by simp only [sizeAtom, sizeStr]; omega, by simp only [sizeAtom]; omega, fun t ht => ?_⟩
  have h1 := sizeL_mem (size := sizeTerm) ht
  have h3 : t.name.size ≤ sizeTerm t := by simp only [sizeTerm, sizeStr]; omega
  simp only [sizeAtom]; omega
theorem rules_small {p : List PRule} (h : sizeL sizeRule p ≤ 1048576) : p.length ≤ 1048576 ∧ (∀ r ∈ p, RuleSmall r) ∧ ∀ r ∈ p, NameSmall r := by
  have l := sizeL_le (size := sizeRule) openRule.one p
  have hr : ∀ r ∈ p, sizeAtom r.head ≤ 1048576 ∧ sizeL sizeAtom r.body ≤ 1048576 := fun r hr => by
    have h1 := sizeL_mem (size := sizeRule) hr
    simp only [sizeRule] at h1
    constructor <;> omega
  have hb : ∀ r ∈ p, ∀ a ∈ r.body, sizeAtom a ≤ 1048576 := fun r h1 a ha => by
    have h2 := sizeL_mem (size := sizeAtom) ha
    have h3 := (hr r h1).2
    omega
  refine ⟨by omega, fun r h1 => ?_, fun r h1 => ?_⟩
  · have h2 := (hr r h1).1
    have h3 := sizeL_le (size := sizeAtom) openAtom.one r.body
    have h4 := (hr r h1).2
    obtain ⟨g1, g2, g3⟩ := atom_small (a := r.head)
    refine ⟨by omega, fun t ht => by have := g3 t ht; omega, by omega, fun a ha => ?_, fun a ha t ht => ?_⟩
    · have := hb r h1 a ha
      have := (atom_small (a := a)).2.1
      omega
    · have := hb r h1 a ha
      have := (atom_small (a := a)).2.2 t ht
      omega
  · have h2 := (hr r h1).1
    have := (atom_small (a := r.head)).1
    refine ⟨by omega, fun a ha => ?_⟩
    have := hb r h1 a ha
    have := (atom_small (a := a)).1
    omega
end Go.Proofs.Ytobbjapmdpkogaa
