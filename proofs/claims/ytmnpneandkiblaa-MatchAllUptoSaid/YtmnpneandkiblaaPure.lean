/-
  PLAIN DATA AND PLAIN FUNCTIONS, no program in sight: what the program's texts, facts, terms, atoms, rules and binds are, and the orders on them.
-/
import Derived.Laws.Strings
namespace Go.Proofs.Ytmnpneandkiblaa
/-- A text. -/
abbrev Str := ByteArray
structure PFact where
  name : Str
  args : List Str
  deriving DecidableEq
instance : Inhabited PFact := ⟨⟨ByteArray.empty, []⟩⟩
structure PTerm where
  var : Bool
  name : Str
  deriving DecidableEq
instance : Inhabited PTerm := ⟨⟨false, ByteArray.empty⟩⟩
structure PAtom where
  neg : Bool
  name : Str
  terms : List PTerm
  deriving DecidableEq
instance : Inhabited PAtom := ⟨⟨false, ByteArray.empty, []⟩⟩
structure PRule where
  head : PAtom
  body : List PAtom
  deriving DecidableEq
instance : Inhabited PRule := ⟨⟨default, []⟩⟩
structure PBind where
  var : Str
  name : Str
  deriving DecidableEq
instance : Inhabited PBind := ⟨⟨ByteArray.empty, ByteArray.empty⟩⟩

theorem bytesLess_irrefl : ∀ l : List UInt8, Op.bytesLess l l = false
  | [] => rfl
  | a :: x => by simp [Op.bytesLess, bytesLess_irrefl x]
theorem bytesLess_tri : ∀ a b : List UInt8, Op.bytesLess a b = false → Op.bytesLess b a = false → a = b
  | [], [], _, _ => rfl
  | [], _ :: _, h, _ => by simp [Op.bytesLess] at h
  | _ :: _, [], _, h => by simp [Op.bytesLess] at h
  | a :: x, b :: y, h, k => by
    simp only [Op.bytesLess, Bool.or_eq_false_iff, decide_eq_false_iff_not, Bool.and_eq_false_iff, beq_eq_false_iff_ne] at h k
    have e : a = b := UInt8.le_antisymm (UInt8.not_lt.1 k.1) (UInt8.not_lt.1 h.1)
    subst e
    have := bytesLess_tri x y (by simpa using h.2) (by simpa using k.2)
    rw [this]
theorem bytesLess_asymm : ∀ a b : List UInt8, Op.bytesLess a b = true → Op.bytesLess b a = false
  | [], [], h => by simp [Op.bytesLess] at h
  | [], _ :: _, _ => rfl
  | _ :: _, [], h => by simp [Op.bytesLess] at h
  | a :: x, b :: y, h => by
    simp only [Op.bytesLess, Bool.or_eq_true, decide_eq_true_eq, Bool.and_eq_true, beq_iff_eq] at h
    rcases h with h | ⟨rfl, h⟩
    · have h1 : ¬ b < a := fun h' => absurd (UInt8.lt_trans h h') (UInt8.lt_irrefl _)
      have h2 : b ≠ a := fun e => by subst e; exact UInt8.lt_irrefl _ h
      simp [Op.bytesLess, h1, h2]
    · simp [Op.bytesLess, bytesLess_asymm x y h]
theorem bytesLess_trans : ∀ a b c : List UInt8, Op.bytesLess a b = true → Op.bytesLess b c = true → Op.bytesLess a c = true
  | _, [], _, h, _ => by cases ‹List UInt8› <;> simp [Op.bytesLess] at h
  | _, _ :: _, [], _, h => by simp [Op.bytesLess] at h
  | [], _ :: _, _ :: _, _, _ => rfl
  | a :: x, b :: y, c :: z, h, k => by
    simp only [Op.bytesLess, Bool.or_eq_true, decide_eq_true_eq, Bool.and_eq_true, beq_iff_eq] at h k ⊢
    rcases h with h | ⟨rfl, h⟩ <;> rcases k with k | ⟨rfl, k⟩
    · exact .inl (UInt8.lt_trans h k)
    · exact .inl h
    · exact .inl k
    · exact .inr ⟨rfl, bytesLess_trans x y z h k⟩

theorem baList (a : ByteArray) : a.toList = a.data.toList := by
  exact ByteArray.toList_eq a
theorem toList_inj {a b : ByteArray} (h : a.toList = b.toList) : a = b := by
  rw [baList, baList] at h
  cases a; cases b
  simpa [Array.toList_inj] using h

def strLt (a b : Str) : Bool := Op.bytesLess a.toList b.toList
theorem strLt_irrefl (a : Str) : strLt a a = false := bytesLess_irrefl _
theorem strLt_asymm {a b : Str} (h : strLt a b = true) : strLt b a = false := bytesLess_asymm _ _ h
theorem strLt_trans {a b c : Str} (h : strLt a b = true) (k : strLt b c = true) : strLt a c = true := bytesLess_trans _ _ _ h k
theorem strLt_tri {a b : Str} (h : strLt a b = false) (k : strLt b a = false) : a = b := toList_inj (bytesLess_tri _ _ h k)

/-- Is x one of l? -/
def memS (x : Str) : List Str → Bool
  | [] => false
  | y :: l => decide (x = y) || memS x l
theorem memS_iff (x : Str) : ∀ l, memS x l = true ↔ x ∈ l
  | [] => by simp [memS]
  | y :: l => by simp [memS, memS_iff x l]

/-- cmp.Compare at texts, at ints. -/
def cmpStr (a b : Str) : Int := if strLt a b then -1 else if strLt b a then 1 else 0
def cmpInt (a b : Int) : Int := if a < b then -1 else if b < a then 1 else 0
/-- slices.Compare. -/
def cmpStrs : List Str → List Str → Int
  | [], [] => 0
  | [], _ :: _ => -1
  | _ :: _, [] => 1
  | a :: x, b :: y => if cmpStr a b ≠ 0 then cmpStr a b else cmpStrs x y
/-- cmp.Or. -/
def orInt : List Int → Int
  | [] => 0
  | a :: l => if a ≠ 0 then a else orInt l
/-- fact.Compare. -/
def cmpFact (f g : PFact) : Int := orInt [cmpStr f.name g.name, cmpInt f.args.length g.args.length, cmpStrs f.args g.args]
end Go.Proofs.Ytmnpneandkiblaa
