/-
  PLAIN: how many lists match.With tells, and how long they are.
-/
import Derived.Test.YtmnpneandkiblaaWithW
namespace Go.Proofs.Ytmnpneandkiblaa

theorem goP_short {pick : Nat → List PFact} {c : Nat} : ∀ (body : List PAtom) (i : Nat) (ls out : List Binds), goP pick i ls body = some out → (∀ l ∈ ls, l.length ≤ c) → (∀ a ∈ body, a.terms.length ≤ 4) → ∀ m ∈ out, m.length ≤ c + 4 * body.length
  | [], i, ls, out, h, hc, _, m, hm => by
    obtain rfl := Option.some.inj h
    have := hc m hm
    simp only [List.length_nil]; omega
  | a :: b, i, ls, out, h, hc, ht, m, hm => by
    rw [goP] at h
    split at h
    · have := goP_short b (i + 1) ls out h hc (fun x hx => ht x (by simp [hx])) m hm
      simp only [List.length_cons]; omega
    · split at h
      · cases h
      · have h1 := ht a (by simp)
        have := goP_short (c := c + a.terms.length) b (i + 1) _ out h (stepP_short hc) (fun x hx => ht x (by simp [hx])) m hm
        simp only [List.length_cons]; omega
theorem goP_count {pick : Nat → List PFact} : ∀ (body : List PAtom) (i : Nat) (ls out : List Binds), goP pick i ls body = some out → ls.length ≤ 20000 → out.length ≤ 20000
  | [], i, ls, out, h, hc => by obtain rfl := Option.some.inj h; exact hc
  | a :: b, i, ls, out, h, hc => by
    rw [goP] at h
    split at h
    · exact goP_count b (i + 1) ls out h hc
    · split at h
      · cases h
      · exact goP_count b (i + 1) _ out h (by omega)
theorem notP_count {pick : Nat → List PFact} : ∀ (body : List PAtom) (i : Nat) (ls : List Binds), (notP pick i ls body).length ≤ ls.length
  | [], i, ls => Nat.le_refl _
  | a :: b, i, ls => by
    rw [notP]
    refine Nat.le_trans (notP_count b (i + 1) _) ?_
    split
    · exact List.length_filter_le _ _
    · exact Nat.le_refl _
theorem addC_count {α : Type} [DecidableEq α] {c : α → α → Int} (f : α) : ∀ l : List α, (addC c f l).length ≤ l.length + 1
  | [] => Nat.le_refl _
  | g :: l => by
    unfold addC
    split
    · simp
    · split
      · simp
      · have := addC_count (c := c) f l
        simp only [List.length_cons]; omega
theorem ofC_count {α : Type} [DecidableEq α] {c : α → α → Int} : ∀ l : List α, (ofC c l).length ≤ l.length
  | [] => Nat.le_refl _
  | f :: l => by
    have h1 := addC_count (c := c) f (ofC c l)
    have h2 := ofC_count (c := c) l
    show (addC c f (ofC c l)).length ≤ _
    simp only [List.length_cons]; omega
theorem with_short (body : List PAtom) (facts : List PFact) (at' : Int) (other : List PFact) : (withP body facts at' other).1.length ≤ 20000 ∧ ∀ m ∈ (withP body facts at' other).1, m.length ≤ 20 := by
  unfold withP
  by_cases h1 : bodyBad body = 0
  case neg => rw [if_pos h1]; simp
  rw [if_neg (by simpa using h1)]
  by_cases h2 : (setF facts).1 = 0
  case neg => rw [if_pos h2]; simp
  rw [if_neg (by simpa using h2)]
  by_cases h3 : (setF other).1 = 0
  case neg => rw [if_pos h3]; simp
  rw [if_neg (by simpa using h3)]
  cases hg : goP (pickP facts other at') 0 [[]] body with
  | none => simp
  | some ls =>
    have g1 := goP_count body 0 _ _ hg (by simp)
    have g2 := goP_short (c := 0) body 0 _ _ hg (by simp) (fun a ha => body_terms h1 ha)
    have g3 := notP_count (pick := pickP facts other at') body 0 ls
    have g4 := body_atoms h1
    dsimp only
    refine ⟨?_, fun m hm => ?_⟩
    · have := ofC_count (c := cmpBinds) ((notP (pickP facts other at') 0 ls body).map (ofC cmpBind))
      rw [List.length_map] at this
      unfold tidyP
      omega
    · obtain ⟨l, hl, rfl⟩ := mem_tidyP.1 hm
      have h5 := ofC_count (c := cmpBind) l
      have h6 := g2 l ((mem_notP body 0 ls l).1 hl).1
      omega
theorem all_short (body : List PAtom) (facts : List PFact) : (allP body facts).1.length ≤ 20000 ∧ ∀ m ∈ (allP body facts).1, m.length ≤ 20 := with_short _ _ _ _
end Go.Proofs.Ytmnpneandkiblaa
