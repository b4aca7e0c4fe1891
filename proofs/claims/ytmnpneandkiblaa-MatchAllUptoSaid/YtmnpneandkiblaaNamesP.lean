/-
  PLAIN: what a name is, and a variable.
-/
import Derived.Test.YtmnpneandkiblaaPure
namespace Go.Proofs.Ytmnpneandkiblaa
def smallB (c : UInt8) : Bool := decide ((97 ≤ c.toNat ∧ c.toNat ≤ 122) ∨ (48 ≤ c.toNat ∧ c.toNat ≤ 57))
def upperB (c : UInt8) : Bool := decide (65 ≤ c.toNat ∧ c.toNat ≤ 90)
def signB (c : UInt8) : Bool := smallB c || upperB c || decide (c.toNat = 95)
def nameL (l : List UInt8) : Bool := decide (l.length ≤ 12) && (match l with | [] => false | c :: cs => smallB c && cs.all signB)
def varL (l : List UInt8) : Bool := decide (l.length ≤ 12) && (match l with | [] => false | c :: cs => upperB c && cs.all signB)
/-- fact.Named. -/
def named (s : Str) : Bool := nameL s.data.toList
/-- Variable of chapter 2. -/
def variableS (s : Str) : Bool := varL s.data.toList

theorem byte_cases (c : UInt8) :
    (((97 : Int) ≤ (c.toNat : Int) ∧ (c.toNat : Int) ≤ 122) ∧ smallB c = true ∧ upperB c = false ∧ signB c = true) ∨
    (((48 : Int) ≤ (c.toNat : Int) ∧ (c.toNat : Int) ≤ 57) ∧ smallB c = true ∧ upperB c = false ∧ signB c = true) ∨
    (((65 : Int) ≤ (c.toNat : Int) ∧ (c.toNat : Int) ≤ 90) ∧ smallB c = false ∧ upperB c = true ∧ signB c = true) ∨
    (((95 : Int) ≤ (c.toNat : Int) ∧ (c.toNat : Int) ≤ 95) ∧ smallB c = false ∧ upperB c = false ∧ signB c = true) ∨
    (((0 : Int) ≤ (c.toNat : Int) ∧ (c.toNat : Int) ≤ 47) ∧ smallB c = false ∧ upperB c = false ∧ signB c = false) ∨
    (((58 : Int) ≤ (c.toNat : Int) ∧ (c.toNat : Int) ≤ 64) ∧ smallB c = false ∧ upperB c = false ∧ signB c = false) ∨
    (((91 : Int) ≤ (c.toNat : Int) ∧ (c.toNat : Int) ≤ 94) ∧ smallB c = false ∧ upperB c = false ∧ signB c = false) ∨
    (((96 : Int) ≤ (c.toNat : Int) ∧ (c.toNat : Int) ≤ 96) ∧ smallB c = false ∧ upperB c = false ∧ signB c = false) ∨
    (((123 : Int) ≤ (c.toNat : Int) ∧ (c.toNat : Int) ≤ 255) ∧ smallB c = false ∧ upperB c = false ∧ signB c = false) := by
  have hlt : c.toNat < 256 := c.toNat_lt
  have S1 : ∀ p : Prop, [Decidable p] → p → decide p = true := fun p _ h => decide_eq_true h
  have S0 : ∀ p : Prop, [Decidable p] → ¬ p → decide p = false := fun p _ h => decide_eq_false h
  have G : ∀ a b d : Bool, smallB c = a → upperB c = b → decide (c.toNat = 95) = d → signB c = (a || b || d) := fun a b d h1 h2 h3 => by rw [signB, h1, h2, h3]
  by_cases h1 : c.toNat ≤ 47
  · have x := S0 _ (show ¬ ((97 ≤ c.toNat ∧ c.toNat ≤ 122) ∨ (48 ≤ c.toNat ∧ c.toNat ≤ 57)) by omega); have y := S0 _ (show ¬ (65 ≤ c.toNat ∧ c.toNat ≤ 90) by omega); have z := S0 _ (show ¬ c.toNat = 95 by omega)
    exact .inr (.inr (.inr (.inr (.inl ⟨⟨by omega, by omega⟩, x, y, G _ _ _ x y z⟩))))
  by_cases h2 : c.toNat ≤ 57
  · have x := S1 _ (show ((97 ≤ c.toNat ∧ c.toNat ≤ 122) ∨ (48 ≤ c.toNat ∧ c.toNat ≤ 57)) by omega); have y := S0 _ (show ¬ (65 ≤ c.toNat ∧ c.toNat ≤ 90) by omega); have z := S0 _ (show ¬ c.toNat = 95 by omega)
    exact .inr (.inl ⟨⟨by omega, by omega⟩, x, y, G _ _ _ x y z⟩)
  by_cases h3 : c.toNat ≤ 64
  · have x := S0 _ (show ¬ ((97 ≤ c.toNat ∧ c.toNat ≤ 122) ∨ (48 ≤ c.toNat ∧ c.toNat ≤ 57)) by omega); have y := S0 _ (show ¬ (65 ≤ c.toNat ∧ c.toNat ≤ 90) by omega); have z := S0 _ (show ¬ c.toNat = 95 by omega)
    exact .inr (.inr (.inr (.inr (.inr (.inl ⟨⟨by omega, by omega⟩, x, y, G _ _ _ x y z⟩)))))
  by_cases h4 : c.toNat ≤ 90
  · have x := S0 _ (show ¬ ((97 ≤ c.toNat ∧ c.toNat ≤ 122) ∨ (48 ≤ c.toNat ∧ c.toNat ≤ 57)) by omega); have y := S1 _ (show (65 ≤ c.toNat ∧ c.toNat ≤ 90) by omega); have z := S0 _ (show ¬ c.toNat = 95 by omega)
    exact .inr (.inr (.inl ⟨⟨by omega, by omega⟩, x, y, G _ _ _ x y z⟩))
  by_cases h5 : c.toNat ≤ 94
  · have x := S0 _ (show ¬ ((97 ≤ c.toNat ∧ c.toNat ≤ 122) ∨ (48 ≤ c.toNat ∧ c.toNat ≤ 57)) by omega); have y := S0 _ (show ¬ (65 ≤ c.toNat ∧ c.toNat ≤ 90) by omega); have z := S0 _ (show ¬ c.toNat = 95 by omega)
    exact .inr (.inr (.inr (.inr (.inr (.inr (.inl ⟨⟨by omega, by omega⟩, x, y, G _ _ _ x y z⟩))))))
  by_cases h6 : c.toNat ≤ 95
  · have x := S0 _ (show ¬ ((97 ≤ c.toNat ∧ c.toNat ≤ 122) ∨ (48 ≤ c.toNat ∧ c.toNat ≤ 57)) by omega); have y := S0 _ (show ¬ (65 ≤ c.toNat ∧ c.toNat ≤ 90) by omega); have z := S1 _ (show c.toNat = 95 by omega)
    exact .inr (.inr (.inr (.inl ⟨⟨by omega, by omega⟩, x, y, G _ _ _ x y z⟩)))
  by_cases h7 : c.toNat ≤ 96
  · have x := S0 _ (show ¬ ((97 ≤ c.toNat ∧ c.toNat ≤ 122) ∨ (48 ≤ c.toNat ∧ c.toNat ≤ 57)) by omega); have y := S0 _ (show ¬ (65 ≤ c.toNat ∧ c.toNat ≤ 90) by omega); have z := S0 _ (show ¬ c.toNat = 95 by omega)
    exact .inr (.inr (.inr (.inr (.inr (.inr (.inr (.inl ⟨⟨by omega, by omega⟩, x, y, G _ _ _ x y z⟩)))))))
  by_cases h8 : c.toNat ≤ 122
  · have x := S1 _ (show ((97 ≤ c.toNat ∧ c.toNat ≤ 122) ∨ (48 ≤ c.toNat ∧ c.toNat ≤ 57)) by omega); have y := S0 _ (show ¬ (65 ≤ c.toNat ∧ c.toNat ≤ 90) by omega); have z := S0 _ (show ¬ c.toNat = 95 by omega)
    exact .inl ⟨⟨by omega, by omega⟩, x, y, G _ _ _ x y z⟩
  · have x := S0 _ (show ¬ ((97 ≤ c.toNat ∧ c.toNat ≤ 122) ∨ (48 ≤ c.toNat ∧ c.toNat ≤ 57)) by omega); have y := S0 _ (show ¬ (65 ≤ c.toNat ∧ c.toNat ≤ 90) by omega); have z := S0 _ (show ¬ c.toNat = 95 by omega)
    exact .inr (.inr (.inr (.inr (.inr (.inr (.inr (.inr ⟨⟨by omega, by omega⟩, x, y, G _ _ _ x y z⟩)))))))

/-- What fact.Named's loop asks of the letters from number j on. -/
def okFrom : Nat → List UInt8 → Bool
  | _, [] => true
  | j, c :: cs => (smallB c || (decide (j ≠ 0) && signB c)) && okFrom (j + 1) cs
theorem okFrom_succ (j : Nat) : ∀ l, okFrom (j + 1) l = l.all signB
  | [] => rfl
  | c :: cs => by
    simp only [okFrom, List.all_cons, okFrom_succ (j + 1) cs]
    cases h : smallB c <;> simp [signB, h]
theorem nameL_okFrom (l : List UInt8) : nameL l = (decide (l.length ≤ 12) && (decide (1 ≤ l.length) && okFrom 0 l)) := by
  cases l with
  | nil => rfl
  | cons c cs => simp [nameL, okFrom, okFrom_succ]
theorem named_ok (s : Str) (h1 : 1 ≤ s.size) (h2 : s.size ≤ 12) : named s = okFrom 0 s.data.toList := by
  have e : s.data.toList.length = s.size := by rw [Array.length_toList]; rfl
  rw [named, nameL_okFrom, e]
  simp [h1, h2]
theorem named_empty (s : Str) (h : s.size < 1) : named s = false := by
  have e : s.data.toList.length = s.size := by rw [Array.length_toList]; rfl
  rw [named, nameL_okFrom, e]
  simp; omega
theorem named_long (s : Str) (h : 12 < s.size) : named s = false := by
  have e : s.data.toList.length = s.size := by rw [Array.length_toList]; rfl
  rw [named, nameL_okFrom, e]
  simp; omega
theorem drop_bytes (s : Str) (k : Nat) (h : k < s.size) : s.data.toList.drop k = s[k] :: s.data.toList.drop (k + 1) := by
  have e : s.data.toList.length = s.size := by rw [Array.length_toList]; rfl
  rw [List.drop_eq_getElem_cons (by omega)]
  rfl
theorem drop_bytes_end (s : Str) (k : Nat) (h : s.size ≤ k) : s.data.toList.drop k = [] := by
  have e : s.data.toList.length = s.size := by rw [Array.length_toList]; rfl
  exact List.drop_eq_nil_of_le (by omega)
theorem okFrom_here {s : Str} {k : Nat} (h : k < s.size) (hr : okFrom 0 s.data.toList = okFrom k (s.data.toList.drop k)) (hc : smallB s[k] = true ∨ (k ≠ 0 ∧ signB s[k] = true)) :
    okFrom 0 s.data.toList = okFrom (k + 1) (s.data.toList.drop (k + 1)) := by
  rw [hr, drop_bytes s k h, okFrom]
  rcases hc with hc | ⟨h0, hc⟩ <;> simp [*]
theorem okFrom_bad {s : Str} {k : Nat} (h : k < s.size) (hr : okFrom 0 s.data.toList = okFrom k (s.data.toList.drop k)) (hs : smallB s[k] = false) (hc : k = 0 ∨ signB s[k] = false) :
    okFrom 0 s.data.toList = false := by
  rw [hr, drop_bytes s k h, okFrom, hs]
  rcases hc with hc | hc
  · rw [decide_eq_false (by simpa using hc)]; rfl
  · rw [hc]; simp
end Go.Proofs.Ytmnpneandkiblaa
