/-
  PLAIN: raising the strata step by step comes to the least ones, or to no end.
-/
import Derived.Test.YtobbjapmdpkogaaStrataP
import Derived.Test.YtobbjapmdpkogaaCheckP
import Derived.Test.YtobbjapmdpkogaaMapW
namespace Go.Proofs.Ytobbjapmdpkogaa

def Dh (p : List PRule) : Nat := (onceS (headsOf p)).length
def tot (p : List PRule) (M : Str → Nat) : Nat := ((onceS (headsOf p)).map M).sum
/-- What has been raised so far. -/
structure Sub (p : List PRule) (M : Str → Nat) : Prop where
  under : ∀ N, Sol p N → ∀ s, M s ≤ N s
  out : ∀ s, s ∉ headsOf p → M s = 0
  lt : ∀ s, M s < Dh p ∨ M s = 0
def raise (p : List PRule) (M : Str → Nat) (r : PRule) (a : PAtom) : Str → Nat := fun t => if t = r.head.name then M a.name + dl p a else M t

theorem Sub.zero (p : List PRule) : Sub p (fun _ => 0) := ⟨fun _ _ _ => Nat.zero_le _, fun _ _ => rfl, fun _ => .inr rfl⟩
theorem sum_up : ∀ (l : List Str) (M N : Str → Nat) (s : Str), s ∈ l → (∀ t, M t ≤ N t) → M s < N s → (l.map M).sum + 1 ≤ (l.map N).sum
  | [], _, _, _, h, _, _ => by simp at h
  | x :: l, M, N, s, h, hle, hlt => by
    have hmono : ∀ l : List Str, (l.map M).sum ≤ (l.map N).sum := fun l => by
      induction l with
      | nil => simp
      | cons y l ih => simp only [List.map_cons, List.sum_cons]; have := hle y; omega
    simp only [List.map_cons, List.sum_cons]
    rcases List.mem_cons.1 h with rfl | h
    · have := hmono l; omega
    · have := sum_up l M N s h hle hlt; have := hle x; omega
theorem sum_le : ∀ (l : List Str) (M : Str → Nat) (d : Nat), (∀ t, M t ≤ d) → (l.map M).sum ≤ l.length * d
  | [], _, _, _ => by simp
  | x :: l, M, d, h => by
    have := sum_le l M d h
    have := h x
    simp only [List.map_cons, List.sum_cons, List.length_cons, Nat.add_mul]
    omega
theorem Sub.tot_le {p : List PRule} {M : Str → Nat} (h : Sub p M) : tot p M ≤ Dh p * Dh p := sum_le _ _ _ fun t => by have := h.lt t; omega
theorem Sub.step {p : List PRule} {M : Str → Nat} (h : Sub p M) {r : PRule} (hr : r ∈ p) {a : PAtom} (ha : a ∈ r.body) (hd : M a.name + dl p a < Dh p) (hup : ¬ M a.name + dl p a ≤ M r.head.name) : Sub p (raise p M r a) ∧ tot p M + 1 ≤ tot p (raise p M r a) := by
  have hh : r.head.name ∈ headsOf p := List.mem_map.2 ⟨r, hr, rfl⟩
  refine ⟨⟨fun N hN s => ?_, fun s hs => ?_, fun s => ?_⟩, ?_⟩
  · unfold raise
    split
    · rename_i e
      have h1 := h.under N hN a.name
      have h2 := hN.up r hr a ha
      rw [e]; omega
    · exact h.under N hN s
  · unfold raise
    rw [if_neg (fun e => hs (by rw [e]; exact hh))]
    exact h.out s hs
  · unfold raise
    split
    · exact .inl hd
    · exact h.lt s
  · refine sum_up _ _ _ r.head.name ((mem_onceS _ _).2 hh) (fun t => ?_) ?_
    · unfold raise
      split
      · rename_i e; rw [e]; omega
      · exact Nat.le_refl _
    · unfold raise
      rw [if_pos rfl]; omega
theorem Sub.fail {p : List PRule} {M : Str → Nat} (h : Sub p M) {r : PRule} (hr : r ∈ p) {a : PAtom} (ha : a ∈ r.body) (hd : ¬ M a.name + dl p a < Dh p) : ∀ N, ¬ Sol p N := by
  intro N hN
  obtain ⟨L, hL⟩ := exists_least hN
  have h1 := h.under L hL.sol a.name
  have h2 := hL.sol.up r hr a ha
  have h3 := hL.bound (D := onceS (headsOf p)) (fun x hx => (mem_onceS x _).2 hx) (s := r.head.name) (List.mem_map.2 ⟨r, hr, rfl⟩)
  have h4 : Dh p = (onceS (headsOf p)).length := rfl
  omega
theorem Sub.done {p : List PRule} {M : Str → Nat} (h : Sub p M) (hk : ∀ r ∈ p, ∀ a ∈ r.body, M a.name + dl p a ≤ M r.head.name) : Least p M := ⟨⟨h.out, hk⟩, fun N hN s => h.under N hN s⟩

theorem onceS_length : ∀ (ks acc : List Str), (ks.foldl (fun acc x => if memS x acc then acc else acc ++ [x]) acc).length ≤ acc.length + ks.length
  | [], acc => by simp
  | k :: ks, acc => by
    rw [List.foldl_cons]
    refine Nat.le_trans (onceS_length ks _) ?_
    split
    · simp
    · simp only [List.length_append, List.length_cons, List.length_nil]; omega
theorem Dh_le (p : List PRule) : Dh p ≤ p.length := by
  have := onceS_length (headsOf p) []
  simpa [Dh, onceS, headsOf] using this

/-- What check.Strata answers. -/
def StrataIs (p : List PRule) (l : List Int) (q : Int × Int) : Prop :=
  (wrongP p).1 ≠ 0 ∧ l = [] ∧ q = wrongP p ∨
  (wrongP p).1 = 0 ∧ ((∃ L, Least p L ∧ l = p.map (fun r => (L r.head.name : Int)) ∧ q = (0, 0)) ∨ ((∀ N, ¬ Sol p N) ∧ l = [] ∧ q = (10, 0)))
theorem StrataIs.unique {p : List PRule} {l m : List Int} {q r : Int × Int} (h : StrataIs p l q) (k : StrataIs p m r) : l = m ∧ q = r := by
  rcases h with ⟨h1, rfl, rfl⟩ | ⟨h1, ⟨L, hL, rfl, rfl⟩ | ⟨h2, rfl, rfl⟩⟩ <;> rcases k with ⟨k1, rfl, rfl⟩ | ⟨k1, ⟨M, hM, rfl, rfl⟩ | ⟨k2, rfl, rfl⟩⟩
  · exact ⟨rfl, rfl⟩
  · exact absurd k1 h1
  · exact absurd k1 h1
  · exact absurd h1 k1
  · rw [hL.unique hM]; exact ⟨rfl, rfl⟩
  · exact absurd hL.sol (k2 L)
  · exact absurd h1 k1
  · exact absurd hM.sol (h2 M)
  · exact ⟨rfl, rfl⟩
end Go.Proofs.Ytobbjapmdpkogaa
