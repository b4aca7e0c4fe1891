/-
  PLAIN: what is wrong with atoms, bodies, rules, programs (chapter 3).
-/
import Derived.Test.YtmnpneandkiblaaNamesP
namespace Go.Proofs.Ytmnpneandkiblaa

def termOk (t : PTerm) : Bool := if t.var then variableS t.name else named t.name
def atomBad (a : PAtom) : Int := if named a.name = false then 7 else if 4 < a.terms.length then 5 else if a.terms.all termOk then 0 else 7
def varsF : List Str → List PTerm → List Str
  | acc, [] => acc
  | acc, t :: l => varsF (if t.var && !memS t.name acc then acc ++ [t.name] else acc) l
def varsOf (a : PAtom) : List Str := varsF [] a.terms
def heldOf (l : List PAtom) : List Str := l.flatMap fun a => if a.neg then [] else varsOf a
def firstBad : List PAtom → Int
  | [] => 0
  | a :: l => if atomBad a ≠ 0 then atomBad a else firstBad l
def freeIn (held : List Str) (l : List PAtom) : Bool := l.all fun a => (varsOf a).all fun v => memS v held
def bodyBad (l : List PAtom) : Int := if 5 < l.length then 5 else if firstBad l ≠ 0 then firstBad l else if freeIn (heldOf l) l then 0 else 9
def allVars (l : List PAtom) : List Str := l.flatMap varsOf
def ruleBad (r : PRule) : Int := if atomBad r.head ≠ 0 then atomBad r.head else if r.head.neg then 2 else if bodyBad r.body ≠ 0 then bodyBad r.body else if (varsOf r.head).all (fun v => memS v (allVars r.body)) then 0 else 9
/-- What is known of how many names are said of. -/
abbrev Known := Str → Option Int
def fits (m : Known) (a : PAtom) : Bool := match m a.name with
  | none => true
  | some n => n == (a.terms.length : Int)
def learn (m : Known) (a : PAtom) : Known := if (m a.name).isSome then m else fun t => if t = a.name then some (a.terms.length : Int) else m t
/-- All of l fit, one behind the other. -/
def fitAll : Known → List PAtom → Bool
  | _, [] => true
  | m, a :: l => fits m a && fitAll (learn m a) l
def learnAll : Known → List PAtom → Known
  | m, [] => m
  | m, a :: l => learnAll (learn m a) l
def wrongFrom : Known → Int → List PRule → Int × Int
  | _, _, [] => (0, 0)
  | m, i, r :: p => if ruleBad r ≠ 0 then (ruleBad r, i) else if fitAll m (r.head :: r.body) then wrongFrom (learnAll m (r.head :: r.body)) (i + 1) p else (8, i)
/-- check.Wrong. -/
def wrongP (p : List PRule) : Int × Int := if 16 < p.length then (5, 0) else wrongFrom (fun _ => none) 0 p

theorem wrongFrom_take : ∀ (p : List PRule) (m : Known) (i : Int) (n : Nat), (wrongFrom m i p).1 = 0 → (wrongFrom m i (p.take n)).1 = 0
  | [], m, i, n, h => by simpa using h
  | r :: p, m, i, 0, h => rfl
  | r :: p, m, i, n + 1, h => by
    rw [List.take_succ_cons]
    unfold wrongFrom at h ⊢
    split
    · rename_i hb; rw [if_pos hb] at h; exact h
    · rename_i hb
      rw [if_neg hb] at h
      split
      · rename_i hf; rw [if_pos hf] at h; exact wrongFrom_take p _ _ n h
      · rename_i hf; rw [if_neg hf] at h; exact h
theorem wrongP_take {p : List PRule} (n : Nat) (h : (wrongP p).1 = 0) : (wrongP (p.take n)).1 = 0 := by
  unfold wrongP at h ⊢
  split at h
  · exact absurd h (by decide)
  · rename_i h16
    rw [if_neg (by rw [List.length_take]; omega)]
    exact wrongFrom_take p _ _ n h
theorem ruleBad_body {r : PRule} (h : ruleBad r = 0) : r.body.length ≤ 5 := by
  unfold ruleBad at h
  split at h
  · rename_i h1; exact absurd h h1
  · split at h
    · exact absurd h (by decide)
    · split at h
      · rename_i h1; exact absurd h h1
      · rename_i h1
        have hb : bodyBad r.body = 0 := Classical.byContradiction fun e => h1 e
        unfold bodyBad at hb
        split at hb
        · exact absurd hb (by decide)
        · omega

theorem varsF_snoc (t : PTerm) : ∀ (l : List PTerm) (acc : List Str), varsF acc (l ++ [t]) = if t.var && !memS t.name (varsF acc l) then varsF acc l ++ [t.name] else varsF acc l
  | [], acc => rfl
  | x :: l, acc => by
    rw [List.cons_append, varsF, varsF]
    exact varsF_snoc t l _
theorem varsF_length : ∀ (l : List PTerm) (acc : List Str), (varsF acc l).length ≤ acc.length + l.length
  | [], acc => by simp [varsF]
  | t :: l, acc => by
    have := varsF_length l (if t.var && !memS t.name acc then acc ++ [t.name] else acc)
    rw [varsF]
    split at this
    · simp only [List.length_append, List.length_cons, List.length_nil] at this
      rw [if_pos (by assumption)]
      simp only [List.length_cons]; omega
    · rw [if_neg (by assumption)]
      simp only [List.length_cons]; omega
theorem heldOf_snoc (l : List PAtom) (a : PAtom) : heldOf (l ++ [a]) = if a.neg then heldOf l else heldOf l ++ varsOf a := by
  unfold heldOf
  rw [List.flatMap_append]
  cases h : a.neg <;> simp [h]
theorem allVars_snoc (l : List PAtom) (a : PAtom) : allVars (l ++ [a]) = allVars l ++ varsOf a := by
  unfold allVars
  rw [List.flatMap_append]
  simp
theorem firstBad_take (l : List PAtom) (k : Nat) (h : ∀ i a, i < k → l[i]? = some a → atomBad a = 0) : firstBad l = firstBad (l.drop k) := by
  induction k generalizing l with
  | zero => rfl
  | succ k ih =>
    cases l with
    | nil => rfl
    | cons a l =>
      have h0 := h 0 a (by omega) rfl
      rw [firstBad, if_neg (by simpa using h0), List.drop_succ_cons]
      exact ih l fun i b hi hb => h (i + 1) b (by omega) (by simpa using hb)
end Go.Proofs.Ytmnpneandkiblaa
