/-
  PLAIN: what match.With comes to; and what the laws of chapter 4 say of it.
-/
import Derived.Test.YtmnpneandkiblaaMatchQ
import Derived.Test.YtmnpneandkiblaaSetW
namespace Go.Proofs.Ytmnpneandkiblaa

def pickP (facts other : List PFact) (at' : Int) (i : Nat) : List PFact := if (i : Int) = at' then other else facts
theorem pickP_all (facts other : List PFact) : pickP facts other (-1) = fun _ => facts := by
  funext i; unfold pickP; rw [if_neg (by omega)]
def withP (body : List PAtom) (facts : List PFact) (at' : Int) (other : List PFact) : List Binds × Int :=
  if bodyBad body ≠ 0 then ([], bodyBad body)
  else if (setF facts).1 ≠ 0 then ([], (setF facts).1)
  else if (setF other).1 ≠ 0 then ([], (setF other).1)
  else match goP (pickP facts other at') 0 [[]] body with
    | none => ([], 4)
    | some ls => (tidyP (notP (pickP facts other at') 0 ls body), 0)
def allP (body : List PAtom) (facts : List PFact) : List Binds × Int := withP body facts (-1) []

theorem setF_zero {l : List PFact} (h : (setF l).1 = 0) : l.length ≤ 200 ∧ ∀ i, i < l.length → badAt l i = 0 := by
  by_cases h1 : 200 < l.length
  · rw [setF_many h1] at h; exact absurd h (by decide)
  · refine ⟨by omega, fun i hi => Classical.byContradiction fun hb => ?_⟩
    unfold setF at h
    rw [if_neg h1] at h
    cases hf : (List.range l.length).find? (fun i => badAt l i != 0) with
    | none =>
      rw [List.find?_range_eq_none] at hf
      have := hf i (by simpa using hi)
      simp at this
      exact hb this
    | some j =>
      rw [hf] at h
      rw [List.find?_range_eq_some] at hf
      have := hf.1
      simp at this
      exact this h
theorem setF_set {l : List PFact} (h : (setF l).1 = 0) : l.length ≤ 200 ∧ Rising l ∧ ∀ f ∈ l, wrongF f = 0 := by
  obtain ⟨h1, h2⟩ := setF_zero h
  have hw : ∀ i f, l[i]? = some f → wrongF f = 0 := fun i f hf => Classical.byContradiction fun hb => by
    have := h2 i (List.getElem?_eq_some_iff.1 hf).1
    rw [badAt_wrong hf hb] at this
    exact hb this
  have hs : ∀ i f g, l[i]? = some f → l[i + 1]? = some g → cmpFact f g < 0 := fun i f g hf hg => by
    have := h2 (i + 1) (List.getElem?_eq_some_iff.1 hg).1
    rw [badAt_succ hg hf (hw _ _ hg)] at this
    split at this
    · assumption
    · exact absurd this (by decide)
  refine ⟨h1, ?_, fun f hf => ?_⟩
  · have key : ∀ d i f g, l[i]? = some f → l[i + d + 1]? = some g → cmpFact f g < 0 := fun d => by
      induction d with
      | zero => exact fun i f g hf hg => hs i f g hf hg
      | succ d ih =>
        intro i f g hf hg
        obtain ⟨m, hm⟩ : ∃ m, l[i + d + 1]? = some m := ⟨_, List.getElem?_eq_getElem (by have := (List.getElem?_eq_some_iff.1 hg).1; omega)⟩
        exact cmpFact3.trans _ _ _ (ih i f m hf hm) (hs _ m g hm hg)
    refine List.pairwise_iff_getElem.2 fun i j hi hj hij => ?_
    simp only [ltF, decide_eq_true_eq]
    refine key (j - i - 1) i _ _ (List.getElem?_eq_getElem hi) ?_
    rw [show i + (j - i - 1) + 1 = j by omega]
    exact List.getElem?_eq_getElem hj
  · obtain ⟨i, hi⟩ := List.mem_iff_getElem?.1 hf
    exact hw i f hi
theorem setF_nil : setF [] = (0, 0) := rfl
/-- With error 0 all is told; with another one nothing. -/
theorem withP_cases (body : List PAtom) (facts : List PFact) (at' : Int) (other : List PFact) :
    ((withP body facts at' other).2 ≠ 0 ∧ (withP body facts at' other).1 = []) ∨
    ((withP body facts at' other).2 = 0 ∧ bodyBad body = 0 ∧ (setF facts).1 = 0 ∧ (setF other).1 = 0 ∧ RisingC cmpBinds (withP body facts at' other).1 ∧ ∀ m, m ∈ (withP body facts at' other).1 ↔ Told (pickP facts other at') body m) := by
  unfold withP
  by_cases h1 : bodyBad body = 0
  · rw [if_neg (by simpa using h1)]
    by_cases h2 : (setF facts).1 = 0
    · rw [if_neg (by simpa using h2)]
      by_cases h3 : (setF other).1 = 0
      · rw [if_neg (by simpa using h3)]
        cases hg : goP (pickP facts other at') 0 [[]] body with
        | none => exact .inl ⟨(by decide : (4 : Int) ≠ 0), rfl⟩
        | some ls => exact .inr ⟨rfl, h1, h2, h3, tidyP_rising _, told_iff h1 hg⟩
      · rw [if_pos h3]; exact .inl ⟨h3, rfl⟩
    · rw [if_pos h2]; exact .inl ⟨h2, rfl⟩
  · rw [if_pos h1]; exact .inl ⟨h1, rfl⟩
theorem allP_cases (body : List PAtom) (facts : List PFact) :
    ((allP body facts).2 ≠ 0 ∧ (allP body facts).1 = []) ∨
    ((allP body facts).2 = 0 ∧ bodyBad body = 0 ∧ (setF facts).1 = 0 ∧ RisingC cmpBinds (allP body facts).1 ∧ ∀ m, m ∈ (allP body facts).1 ↔ Told (fun _ => facts) body m) := by
  rcases withP_cases body facts (-1) [] with h | ⟨h1, h2, h3, -, h4, h5⟩
  · exact .inl h
  · exact .inr ⟨h1, h2, h3, h4, fun m => by have := h5 m; rwa [pickP_all] at this⟩

/-- MatchOrder. -/
theorem told_reverse {fs : List PFact} {body : List PAtom} {m : Binds} : Told (fun _ => fs) body.reverse m ↔ Told (fun _ => fs) body m := by
  unfold Told
  refine and_congr_right fun _ => and_congr_right fun _ => and_congr ?_ ?_
  · simp only [List.mem_reverse]
  · constructor
    · intro h j a ha
      obtain ⟨i, hi⟩ := List.mem_iff_getElem?.1 (List.mem_reverse.2 (List.mem_of_getElem? ha))
      exact h i a hi
    · intro h j a ha
      obtain ⟨i, hi⟩ := List.mem_iff_getElem?.1 (List.mem_reverse.1 (List.mem_of_getElem? ha))
      exact h i a hi
theorem all_turned (body : List PAtom) (fs : List PFact) (h : (allP body fs).2 = 0) (k : (allP body.reverse fs).2 = 0) : (allP body fs).1 = (allP body.reverse fs).1 := by
  rcases allP_cases body fs with ⟨h1, -⟩ | ⟨-, -, -, h1, h2⟩
  · exact absurd h h1
  · rcases allP_cases body.reverse fs with ⟨k1, -⟩ | ⟨-, -, -, k1, k2⟩
    · exact absurd k k1
    · exact risingC_ext cmpBinds3 h1 k1 fun m => by rw [h2, k2, told_reverse]

/-- MatchSo. -/
theorem all_so {body : List PAtom} {fs : List PFact} {m : Binds} (hm : m ∈ (allP body fs).1) {a : PAtom} (ha : a ∈ body) : ∃ f, fillP a m = some f ∧ memF f fs = !a.neg := by
  rcases allP_cases body fs with ⟨-, h1⟩ | ⟨-, -, -, -, h2⟩
  · rw [h1] at hm; simp at hm
  · obtain ⟨j, hj⟩ := List.mem_iff_getElem?.1 ha
    exact ((h2 m).1 hm).2.2.2 j a hj
theorem all_rise {body : List PAtom} {fs : List PFact} {i : Nat} {x y : Binds} (hx : (allP body fs).1[i]? = some x) (hy : (allP body fs).1[i + 1]? = some y) : cmpBinds x y < 0 := by
  have hr : RisingC cmpBinds (allP body fs).1 := by
    rcases allP_cases body fs with ⟨-, h1⟩ | ⟨-, -, -, h1, -⟩
    · rw [h1]; exact List.Pairwise.nil
    · exact h1
  obtain ⟨h1, h2⟩ := List.getElem?_eq_some_iff.1 hx
  obtain ⟨h3, h4⟩ := List.getElem?_eq_some_iff.1 hy
  have := List.pairwise_iff_getElem.1 hr i (i + 1) h1 h3 (by omega)
  rw [h2, h4] at this
  simpa [ltC] using this

/-- MatchAll: the guess. -/
def guessS (names : List Str) (env : Binds) (v : Str) : Binds := if (getB v env).isSome then env else env ++ [⟨v, names.getD (env.length % names.length) .empty⟩]
def guessP (names : List Str) (vs : List Str) : Binds := vs.foldl (guessS names) []
theorem guess_nd (names : List Str) : ∀ (vs : List Str) (env : Binds), Nd env → Nd (vs.foldl (guessS names) env) ∧ ∀ v, v ∈ Vs (vs.foldl (guessS names) env) ↔ v ∈ Vs env ∨ v ∈ vs
  | [], env, h => ⟨h, by simp⟩
  | u :: vs, env, h => by
    rw [List.foldl_cons]
    have h1 : Nd (guessS names env u) ∧ ∀ v, v ∈ Vs (guessS names env u) ↔ v ∈ Vs env ∨ v = u := by
      unfold guessS
      cases hg : getB u env with
      | some n =>
        refine ⟨h, fun v => ⟨.inl, ?_⟩⟩
        rintro (k | k)
        · exact k
        · rw [k]; exact List.mem_map.2 ⟨_, getB_mem hg, rfl⟩
      | none => exact ⟨nd_snoc h (getB_none.1 hg), fun v => by simp [Vs]⟩
    obtain ⟨g1, g2⟩ := guess_nd names vs _ h1.1
    refine ⟨g1, fun v => ?_⟩
    rw [g2, h1.2, List.mem_cons]
    constructor
    · rintro ((h | h) | h)
      · exact .inl h
      · exact .inr (.inl h)
      · exact .inr (.inr h)
    · rintro (h | h | h)
      · exact .inl (.inl h)
      · exact .inl (.inr h)
      · exact .inr h
theorem guess_len (names : List Str) : ∀ (vs : List Str) (env : Binds), (vs.foldl (guessS names) env).length ≤ env.length + vs.length
  | [], env => by simp
  | u :: vs, env => by
    rw [List.foldl_cons]
    have := guess_len names vs (guessS names env u)
    have h1 : (guessS names env u).length ≤ env.length + 1 := by unfold guessS; split <;> simp
    simp only [List.length_cons]; omega
theorem all_told {body : List PAtom} {fs : List PFact} (h : (allP body fs).2 = 0) {env : Binds} (hn : Nd env) (hv : ∀ v, v ∈ Vs env ↔ v ∈ allVars body)
    (hf : ∀ a ∈ body, ∃ f, fillP a env = some f ∧ memF f fs = !a.neg) : ∃ l ∈ (allP body fs).1, l.length = env.length ∧ ∀ b ∈ env, getB b.var l = some b.name := by
  rcases allP_cases body fs with ⟨h1, -⟩ | ⟨-, -, -, -, h2⟩
  · exact absurd h h1
  · refine ⟨ofC cmpBind env, (h2 _).2 ⟨ofC_rising cmpBind3 env, nd_ofC hn, fun v => ?_, fun j a ha => ?_⟩, length_ofC cmpBind3 env (nd_nodup hn), fun b hb => ?_⟩
    · rw [vs_ofC, hv]
      unfold allVars
      simp [List.mem_flatMap]
    · obtain ⟨f, h1, h3⟩ := hf a (List.mem_of_getElem? ha)
      exact ⟨f, by rw [fillP_same (getB_ofC hn)]; exact h1, h3⟩
    · rw [getB_ofC hn]
      exact getB_of_mem hn hb
end Go.Proofs.Ytmnpneandkiblaa
