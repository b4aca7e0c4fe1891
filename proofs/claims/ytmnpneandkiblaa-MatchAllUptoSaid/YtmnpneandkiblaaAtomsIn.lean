/-
  PLAIN: a body of little bulk is small.
-/
import Derived.Test.YtmnpneandkiblaaEntry
namespace Go.Proofs.Ytmnpneandkiblaa

/-- What a body's names and terms may come to. -/
structure BodySmall (l : List PAtom) : Prop where
  b0 : l.length ≤ 1048576
  b1 : ∀ a ∈ l, a.terms.length ≤ 1048576
  b2 : ∀ a ∈ l, ∀ t ∈ a.terms, t.name.size ≤ 1048576
theorem body_small {l : List PAtom} (h : sizeL sizeAtom l ≤ 1048576) : BodySmall l := by
  have h0 := sizeL_le (size := sizeAtom) openAtom.one l
  have h1 : ∀ a ∈ l, sizeAtom a ≤ 1048576 := fun a ha => by have := sizeL_mem (size := sizeAtom) ha; omega
  refine ⟨by omega, fun a ha => ?_, fun a ha t ht => ?_⟩
  · have h2 := sizeL_le (size := sizeTerm) openTerm.one a.terms
    have h3 := h1 a ha
    simp only [sizeAtom] at h3; omega
  · have h2 := sizeL_mem (size := sizeTerm) ht
    have h4 : t.name.size ≤ sizeTerm t := by simp only [sizeTerm, sizeStr]; omega
    have h3 := h1 a ha
    simp only [sizeAtom] at h3; omega
end Go.Proofs.Ytmnpneandkiblaa
