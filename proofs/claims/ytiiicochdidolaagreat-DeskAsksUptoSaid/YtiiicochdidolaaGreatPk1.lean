/-
  THE TEXTS Pure, NamesP, SynP, SynA, Base, Named, one behind the other.
-/
import Derived.Laws.Strings
import Derived.Test.YtiiicochdidolaaGreatProg
import Derived.WalkKit
import Derived.WalkLawsBesides
import Derived.WalkSpells
import Derived.Outline
import Derived.Lib.Hide
import Derived.Deep.RegionHeld3
import Derived.Deep.AppendLies
import Derived.Deep.DrawnRows
import Derived.Deep.LoopGhost
import Derived.Laws.Pointers
import Derived.Sort.Grow
namespace Go.Proofs.YtiiicochdidolaaGreat
abbrev Str := ByteArray
structure PFact where
  name : Str
  args : List Str
  deriving DecidableEq
instance : Inhabited PFact := ⟨⟨ByteArray.empty, []⟩⟩
structure PTerm where
  var : Bool
  name : Str
  deriving DecidableEq
instance : Inhabited PTerm := ⟨⟨false, ByteArray.empty⟩⟩
structure PAtom where
  neg : Bool
  name : Str
  terms : List PTerm
  deriving DecidableEq
instance : Inhabited PAtom := ⟨⟨false, ByteArray.empty, []⟩⟩
structure PRule where
  head : PAtom
  body : List PAtom
  deriving DecidableEq
instance : Inhabited PRule := ⟨⟨default, []⟩⟩
structure PBind where
  var : Str
  name : Str
  deriving DecidableEq
instance : Inhabited PBind := ⟨⟨ByteArray.empty, ByteArray.empty⟩⟩
theorem bytesLess_irrefl : ∀ l : List UInt8, Op.bytesLess l l = false
  | [] => rfl
  | a :: x => by simp [Op.bytesLess, bytesLess_irrefl x]
theorem bytesLess_tri : ∀ a b : List UInt8, Op.bytesLess a b = false → Op.bytesLess b a = false → a = b
  | [], [], _, _ => rfl
  | [], _ :: _, h, _ => by simp [Op.bytesLess] at h
  | _ :: _, [], _, h => by simp [Op.bytesLess] at h
  | a :: x, b :: y, h, k => by
    simp only [Op.bytesLess, Bool.or_eq_false_iff, decide_eq_false_iff_not, Bool.and_eq_false_iff, beq_eq_false_iff_ne] at h k
    have e : a = b := UInt8.le_antisymm (UInt8.not_lt.1 k.1) (UInt8.not_lt.1 h.1)
    subst e
    have := bytesLess_tri x y (by simpa using h.2) (by simpa using k.2)
    rw [this]
theorem bytesLess_asymm : ∀ a b : List UInt8, Op.bytesLess a b = true → Op.bytesLess b a = false
  | [], [], h => by simp [Op.bytesLess] at h
  | [], _ :: _, _ => rfl
  | _ :: _, [], h => by simp [Op.bytesLess] at h
  | a :: x, b :: y, h => by
    simp only [Op.bytesLess, Bool.or_eq_true, decide_eq_true_eq, Bool.and_eq_true, beq_iff_eq] at h
    rcases h with h | ⟨rfl, h⟩
    · have h1 : ¬ b < a := fun h' => absurd (UInt8.lt_trans h h') (UInt8.lt_irrefl _)
      have h2 : b ≠ a := fun e => by subst e; exact UInt8.lt_irrefl _ h
      simp [Op.bytesLess, h1, h2]
    · simp [Op.bytesLess, bytesLess_asymm x y h]
theorem bytesLess_trans : ∀ a b c : List UInt8, Op.bytesLess a b = true → Op.bytesLess b c = true → Op.bytesLess a c = true
  | _, [], _, h, _ => by cases ‹List UInt8› <;> simp [Op.bytesLess] at h
  | _, _ :: _, [], _, h => by simp [Op.bytesLess] at h
  | [], _ :: _, _ :: _, _, _ => rfl
  | a :: x, b :: y, c :: z, h, k => by
    simp only [Op.bytesLess, Bool.or_eq_true, decide_eq_true_eq, Bool.and_eq_true, beq_iff_eq] at h k ⊢
    rcases h with h | ⟨rfl, h⟩ <;> rcases k with k | ⟨rfl, k⟩
    · exact .inl (UInt8.lt_trans h k)
    · exact .inl h
    · exact .inl k
    · exact .inr ⟨rfl, bytesLess_trans x y z h k⟩
theorem baList (a : ByteArray) : a.toList = a.data.toList := by
  exact ByteArray.toList_eq a
theorem toList_inj {a b : ByteArray} (h : a.toList = b.toList) : a = b := by
  rw [baList, baList] at h
  cases a; cases b
  simpa [Array.toList_inj] using h
def strLt (a b : Str) : Bool := Op.bytesLess a.toList b.toList
theorem strLt_irrefl (a : Str) : strLt a a = false := bytesLess_irrefl _
theorem strLt_asymm {a b : Str} (h : strLt a b = true) : strLt b a = false := bytesLess_asymm _ _ h
theorem strLt_trans {a b c : Str} (h : strLt a b = true) (k : strLt b c = true) : strLt a c = true := bytesLess_trans _ _ _ h k
theorem strLt_tri {a b : Str} (h : strLt a b = false) (k : strLt b a = false) : a = b := toList_inj (bytesLess_tri _ _ h k)
def memS (x : Str) : List Str → Bool
  | [] => false
  | y :: l => decide (x = y) || memS x l
theorem memS_iff (x : Str) : ∀ l, memS x l = true ↔ x ∈ l
  | [] => by simp [memS]
  | y :: l => by simp [memS, memS_iff x l]
def cmpStr (a b : Str) : Int := if strLt a b then -1 else if strLt b a then 1 else 0
def cmpInt (a b : Int) : Int := if a < b then -1 else if b < a then 1 else 0
def cmpStrs : List Str → List Str → Int
  | [], [] => 0
  | [], _ :: _ => -1
  | _ :: _, [] => 1
  | a :: x, b :: y => if cmpStr a b ≠ 0 then cmpStr a b else cmpStrs x y
def orInt : List Int → Int
  | [] => 0
  | a :: l => if a ≠ 0 then a else orInt l
def cmpFact (f g : PFact) : Int := orInt [cmpStr f.name g.name, cmpInt f.args.length g.args.length, cmpStrs f.args g.args]
end Go.Proofs.YtiiicochdidolaaGreat
namespace Go.Proofs.YtiiicochdidolaaGreat
def smallB (c : UInt8) : Bool := decide ((97 ≤ c.toNat ∧ c.toNat ≤ 122) ∨ (48 ≤ c.toNat ∧ c.toNat ≤ 57))
def upperB (c : UInt8) : Bool := decide (65 ≤ c.toNat ∧ c.toNat ≤ 90)
def signB (c : UInt8) : Bool := smallB c || upperB c || decide (c.toNat = 95)
def nameL (l : List UInt8) : Bool := decide (l.length ≤ 12) && (match l with | [] => false | c :: cs => smallB c && cs.all signB)
def varL (l : List UInt8) : Bool := decide (l.length ≤ 12) && (match l with | [] => false | c :: cs => upperB c && cs.all signB)
def named (s : Str) : Bool := nameL s.data.toList
def variableS (s : Str) : Bool := varL s.data.toList
theorem byte_cases (c : UInt8) :
    (((97 : Int) ≤ (c.toNat : Int) ∧ (c.toNat : Int) ≤ 122) ∧ smallB c = true ∧ upperB c = false ∧ signB c = true) ∨
    (((48 : Int) ≤ (c.toNat : Int) ∧ (c.toNat : Int) ≤ 57) ∧ smallB c = true ∧ upperB c = false ∧ signB c = true) ∨
    (((65 : Int) ≤ (c.toNat : Int) ∧ (c.toNat : Int) ≤ 90) ∧ smallB c = false ∧ upperB c = true ∧ signB c = true) ∨
    (((95 : Int) ≤ (c.toNat : Int) ∧ (c.toNat : Int) ≤ 95) ∧ smallB c = false ∧ upperB c = false ∧ signB c = true) ∨
    (((0 : Int) ≤ (c.toNat : Int) ∧ (c.toNat : Int) ≤ 47) ∧ smallB c = false ∧ upperB c = false ∧ signB c = false) ∨
    (((58 : Int) ≤ (c.toNat : Int) ∧ (c.toNat : Int) ≤ 64) ∧ smallB c = false ∧ upperB c = false ∧ signB c = false) ∨
    (((91 : Int) ≤ (c.toNat : Int) ∧ (c.toNat : Int) ≤ 94) ∧ smallB c = false ∧ upperB c = false ∧ signB c = false) ∨
    (((96 : Int) ≤ (c.toNat : Int) ∧ (c.toNat : Int) ≤ 96) ∧ smallB c = false ∧ upperB c = false ∧ signB c = false) ∨
    (((123 : Int) ≤ (c.toNat : Int) ∧ (c.toNat : Int) ≤ 255) ∧ smallB c = false ∧ upperB c = false ∧ signB c = false) := by
  have hlt : c.toNat < 256 := c.toNat_lt
  have S1 : ∀ p : Prop, [Decidable p] → p → decide p = true := fun p _ h => decide_eq_true h
  have S0 : ∀ p : Prop, [Decidable p] → ¬ p → decide p = false := fun p _ h => decide_eq_false h
  have G : ∀ a b d : Bool, smallB c = a → upperB c = b → decide (c.toNat = 95) = d → signB c = (a || b || d) := fun a b d h1 h2 h3 => by rw [signB, h1, h2, h3]
  by_cases h1 : c.toNat ≤ 47
  · have x := S0 _ (show ¬ ((97 ≤ c.toNat ∧ c.toNat ≤ 122) ∨ (48 ≤ c.toNat ∧ c.toNat ≤ 57)) by omega); have y := S0 _ (show ¬ (65 ≤ c.toNat ∧ c.toNat ≤ 90) by omega); have z := S0 _ (show ¬ c.toNat = 95 by omega)
    exact .inr (.inr (.inr (.inr (.inl ⟨⟨by omega, by omega⟩, x, y, G _ _ _ x y z⟩))))
  by_cases h2 : c.toNat ≤ 57
  · have x := S1 _ (show ((97 ≤ c.toNat ∧ c.toNat ≤ 122) ∨ (48 ≤ c.toNat ∧ c.toNat ≤ 57)) by omega); have y := S0 _ (show ¬ (65 ≤ c.toNat ∧ c.toNat ≤ 90) by omega); have z := S0 _ (show ¬ c.toNat = 95 by omega)
    exact .inr (.inl ⟨⟨by omega, by omega⟩, x, y, G _ _ _ x y z⟩)
  by_cases h3 : c.toNat ≤ 64
  · have x := S0 _ (show ¬ ((97 ≤ c.toNat ∧ c.toNat ≤ 122) ∨ (48 ≤ c.toNat ∧ c.toNat ≤ 57)) by omega); have y := S0 _ (show ¬ (65 ≤ c.toNat ∧ c.toNat ≤ 90) by omega); have z := S0 _ (show ¬ c.toNat = 95 by omega)
    exact .inr (.inr (.inr (.inr (.inr (.inl ⟨⟨by omega, by omega⟩, x, y, G _ _ _ x y z⟩)))))
  by_cases h4 : c.toNat ≤ 90
  · have x := S0 _ (show ¬ ((97 ≤ c.toNat ∧ c.toNat ≤ 122) ∨ (48 ≤ c.toNat ∧ c.toNat ≤ 57)) by omega); have y := S1 _ (show (65 ≤ c.toNat ∧ c.toNat ≤ 90) by omega); have z := S0 _ (show ¬ c.toNat = 95 by omega)
    exact .inr (.inr (.inl ⟨⟨by omega, by omega⟩, x, y, G _ _ _ x y z⟩))
  by_cases h5 : c.toNat ≤ 94
  · have x := S0 _ (show ¬ ((97 ≤ c.toNat ∧ c.toNat ≤ 122) ∨ (48 ≤ c.toNat ∧ c.toNat ≤ 57)) by omega); have y := S0 _ (show ¬ (65 ≤ c.toNat ∧ c.toNat ≤ 90) by omega); have z := S0 _ (show ¬ c.toNat = 95 by omega)
    exact .inr (.inr (.inr (.inr (.inr (.inr (.inl ⟨⟨by omega, by omega⟩, x, y, G _ _ _ x y z⟩))))))
  by_cases h6 : c.toNat ≤ 95
  · have x := S0 _ (show ¬ ((97 ≤ c.toNat ∧ c.toNat ≤ 122) ∨ (48 ≤ c.toNat ∧ c.toNat ≤ 57)) by omega); have y := S0 _ (show ¬ (65 ≤ c.toNat ∧ c.toNat ≤ 90) by omega); have z := S1 _ (show c.toNat = 95 by omega)
    exact .inr (.inr (.inr (.inl ⟨⟨by omega, by omega⟩, x, y, G _ _ _ x y z⟩)))
  by_cases h7 : c.toNat ≤ 96
  · have x := S0 _ (show ¬ ((97 ≤ c.toNat ∧ c.toNat ≤ 122) ∨ (48 ≤ c.toNat ∧ c.toNat ≤ 57)) by omega); have y := S0 _ (show ¬ (65 ≤ c.toNat ∧ c.toNat ≤ 90) by omega); have z := S0 _ (show ¬ c.toNat = 95 by omega)
    exact .inr (.inr (.inr (.inr (.inr (.inr (.inr (.inl ⟨⟨by omega, by omega⟩, x, y, G _ _ _ x y z⟩)))))))
  by_cases h8 : c.toNat ≤ 122
  · have x := S1 _ (show ((97 ≤ c.toNat ∧ c.toNat ≤ 122) ∨ (48 ≤ c.toNat ∧ c.toNat ≤ 57)) by omega); have y := S0 _ (show ¬ (65 ≤ c.toNat ∧ c.toNat ≤ 90) by omega); have z := S0 _ (show ¬ c.toNat = 95 by omega)
    exact .inl ⟨⟨by omega, by omega⟩, x, y, G _ _ _ x y z⟩
  · have x := S0 _ (show ¬ ((97 ≤ c.toNat ∧ c.toNat ≤ 122) ∨ (48 ≤ c.toNat ∧ c.toNat ≤ 57)) by omega); have y := S0 _ (show ¬ (65 ≤ c.toNat ∧ c.toNat ≤ 90) by omega); have z := S0 _ (show ¬ c.toNat = 95 by omega)
    exact .inr (.inr (.inr (.inr (.inr (.inr (.inr (.inr ⟨⟨by omega, by omega⟩, x, y, G _ _ _ x y z⟩)))))))
def okFrom : Nat → List UInt8 → Bool
  | _, [] => true
  | j, c :: cs => (smallB c || (decide (j ≠ 0) && signB c)) && okFrom (j + 1) cs
theorem okFrom_succ (j : Nat) : ∀ l, okFrom (j + 1) l = l.all signB
  | [] => rfl
  | c :: cs => by
    simp only [okFrom, List.all_cons, okFrom_succ (j + 1) cs]
    cases h : smallB c <;> simp [signB, h]
theorem nameL_okFrom (l : List UInt8) : nameL l = (decide (l.length ≤ 12) && (decide (1 ≤ l.length) && okFrom 0 l)) := by
  cases l with
  | nil => rfl
  | cons c cs => simp [nameL, okFrom, okFrom_succ]
theorem named_ok (s : Str) (h1 : 1 ≤ s.size) (h2 : s.size ≤ 12) : named s = okFrom 0 s.data.toList := by
  have e : s.data.toList.length = s.size := by rw [Array.length_toList]; rfl
  rw [named, nameL_okFrom, e]
  simp [h1, h2]
theorem named_empty (s : Str) (h : s.size < 1) : named s = false := by
  have e : s.data.toList.length = s.size := by rw [Array.length_toList]; rfl
  rw [named, nameL_okFrom, e]
  simp; omega
theorem named_long (s : Str) (h : 12 < s.size) : named s = false := by
  have e : s.data.toList.length = s.size := by rw [Array.length_toList]; rfl
  rw [named, nameL_okFrom, e]
  simp; omega
theorem drop_bytes (s : Str) (k : Nat) (h : k < s.size) : s.data.toList.drop k = s[k] :: s.data.toList.drop (k + 1) := by
  have e : s.data.toList.length = s.size := by rw [Array.length_toList]; rfl
  rw [List.drop_eq_getElem_cons (by omega)]
  rfl
theorem drop_bytes_end (s : Str) (k : Nat) (h : s.size ≤ k) : s.data.toList.drop k = [] := by
  have e : s.data.toList.length = s.size := by rw [Array.length_toList]; rfl
  exact List.drop_eq_nil_of_le (by omega)
theorem okFrom_here {s : Str} {k : Nat} (h : k < s.size) (hr : okFrom 0 s.data.toList = okFrom k (s.data.toList.drop k)) (hc : smallB s[k] = true ∨ (k ≠ 0 ∧ signB s[k] = true)) :
    okFrom 0 s.data.toList = okFrom (k + 1) (s.data.toList.drop (k + 1)) := by
  rw [hr, drop_bytes s k h, okFrom]
  rcases hc with hc | ⟨h0, hc⟩ <;> simp [*]
theorem okFrom_bad {s : Str} {k : Nat} (h : k < s.size) (hr : okFrom 0 s.data.toList = okFrom k (s.data.toList.drop k)) (hs : smallB s[k] = false) (hc : k = 0 ∨ signB s[k] = false) :
    okFrom 0 s.data.toList = false := by
  rw [hr, drop_bytes s k h, okFrom, hs]
  rcases hc with hc | hc
  · rw [decide_eq_false (by simpa using hc)]; rfl
  · rw [hc]; simp
end Go.Proofs.YtiiicochdidolaaGreat
namespace Go.Proofs.YtiiicochdidolaaGreat
abbrev Bytes := List UInt8
def strOf (l : Bytes) : Str := ⟨l.toArray⟩
abbrev Got (α : Type) := Except (Int × Bytes) (α × Bytes)
def blankF : Bool → Bytes → Bytes
  | _, [] => []
  | note, c :: r => if c = 10 then blankF false r else if c = 37 then blankF true r else if c ≠ 32 ∧ note = false then c :: r else blankF note r
def eatsF (sign : Bytes) (r : Bytes) : Bool := sign.isPrefixOf (blankF false r)
def eatF (sign : Bytes) (r : Bytes) : Bytes := if eatsF sign r then (blankF false r).drop sign.length else blankF false r
def mustF (sign : Bytes) (r : Bytes) : Got Unit := if eatsF sign r then .ok ((), eatF sign r) else .error (2, eatF sign r)
def wordOf (r : Bytes) : Bytes := (blankF false r).takeWhile signB
def wordF (r : Bytes) : Got Str :=
  if wordOf r = [] then .error (2, blankF false r) else if nameL (wordOf r) = false ∧ varL (wordOf r) = false then .error (7, blankF false r) else .ok (strOf (wordOf r), (blankF false r).drop (wordOf r).length)
def termsF : Nat → List PTerm → Bytes → Got (List PTerm)
  | 0, _, r => .error (5, r)
  | n + 1, acc, r => match wordF r with
    | .error e => .error e
    | .ok (w, r1) => if eatsF [44] r1 then termsF n (acc ++ [⟨variableS w, w⟩]) (eatF [44] r1) else match mustF [41] (eatF [44] r1) with
      | .error e => .error e
      | .ok (_, r3) => .ok (acc ++ [⟨variableS w, w⟩], r3)
def negOf (no : Bool) (r : Bytes) : Bool := no && eatsF [33] r
def behindNot (no : Bool) (r : Bytes) : Bytes := blankF false (if no then eatF [33] r else r)
def atomF (no : Bool) (r : Bytes) : Got PAtom :=
  match wordF (behindNot no r) with
  | .error e => .error e
  | .ok (w, r2) => if variableS w then .error (7, behindNot no r) else if eatsF [40] r2 then match termsF 4 [] (eatF [40] r2) with
      | .error e => .error e
      | .ok (ts, r4) => .ok (⟨negOf no r, w, ts⟩, r4)
    else .ok (⟨negOf no r, w, []⟩, eatF [40] r2)
def bodyF : Nat → List PAtom → Bytes → Got (List PAtom)
  | 0, _, r => .error (5, r)
  | n + 1, acc, r => match atomF true r with
    | .error e => .error e
    | .ok (a, r1) => if eatsF [44] r1 then bodyF n (acc ++ [a]) (eatF [44] r1) else .ok (acc ++ [a], eatF [44] r1)
def headF (r : Bytes) : Got PAtom := atomF false r
def tailF (r1 : Bytes) : Got (List PAtom) := if eatsF [58, 45] r1 then bodyF 5 [] (eatF [58, 45] r1) else .ok ([], eatF [58, 45] r1)
def ruleF (r : Bytes) : Got PRule := match headF r with
  | .error e => .error e
  | .ok (h, r1) => match tailF r1 with
    | .error e => .error e
    | .ok (b, r3) => match mustF [46] r3 with
      | .error e => .error e
      | .ok (_, r4) => .ok (⟨h, b⟩, r4)
def progF : Nat → List PRule → Bytes → Got (List PRule)
  | 0, acc, r => if blankF false r = [] then .ok (acc, []) else .error (5, blankF false r)
  | n + 1, acc, r => if blankF false r = [] then .ok (acc, []) else match ruleF (blankF false r) with
    | .error e => .error e
    | .ok (x, r1) => progF n (acc ++ [x]) r1
def parseF (s : Str) : List PRule × Int × Int :=
  if 3000 < s.size then ([], 4, 0) else match progF 16 [] s.data.toList with
    | .ok (l, _) => (l, 0, 0)
    | .error (e, r) => ([], e, (s.size : Int) - r.length)
def bodyAllF (r : Bytes) : Got (List PAtom) := match bodyF 5 [] r with
  | .error e => .error e
  | .ok (l, r1) => if blankF false r1 = [] then .ok (l, []) else .error (2, blankF false r1)
def parseBodyF (s : Str) : List PAtom × Int × Int :=
  if 3000 < s.size then ([], 4, 0) else match bodyAllF s.data.toList with
    | .ok (l, _) => (l, 0, 0)
    | .error (e, r) => ([], e, (s.size : Int) - r.length)
theorem blankF_suffix : ∀ (note : Bool) (r : Bytes), blankF note r <:+ r
  | _, [] => List.suffix_refl _
  | note, c :: r => by
    unfold blankF
    split
    · exact (blankF_suffix false r).trans (List.suffix_cons _ _)
    · split
      · exact (blankF_suffix true r).trans (List.suffix_cons _ _)
      · split
        · exact List.suffix_refl _
        · exact (blankF_suffix note r).trans (List.suffix_cons _ _)
theorem eatF_suffix (sign r : Bytes) : eatF sign r <:+ r := by
  unfold eatF
  split
  · exact (List.drop_suffix _ _).trans (blankF_suffix _ _)
  · exact blankF_suffix _ _
theorem behindNot_suffix (no : Bool) (r : Bytes) : behindNot no r <:+ r := by
  unfold behindNot
  refine (blankF_suffix _ _).trans ?_
  split
  · exact eatF_suffix _ _
  · exact List.suffix_refl _
theorem blankF_idem : ∀ (note : Bool) (r : Bytes), blankF false (blankF note r) = blankF note r
  | _, [] => rfl
  | note, c :: r => by
    rw [blankF]
    split
    · exact blankF_idem false r
    · split
      · exact blankF_idem true r
      · split
        · rename_i h1 h2 h3
          rw [blankF, if_neg h1, if_neg h2, if_pos ⟨h3.1, rfl⟩]
        · exact blankF_idem note r
def Got.left {α : Type} : Got α → Bytes
  | .ok (_, r) => r
  | .error (_, r) => r
theorem wordF_suffix (r : Bytes) : (wordF r).left <:+ r := by
  unfold wordF
  split
  · exact blankF_suffix _ _
  · split
    · exact blankF_suffix _ _
    · exact (List.drop_suffix _ _).trans (blankF_suffix _ _)
theorem mustF_suffix (sign r : Bytes) : (mustF sign r).left <:+ r := by
  unfold mustF
  split <;> exact eatF_suffix _ _
theorem termsF_suffix : ∀ (n : Nat) (acc : List PTerm) (r : Bytes), (termsF n acc r).left <:+ r
  | 0, _, _ => List.suffix_refl _
  | n + 1, acc, r => by
    have hw := wordF_suffix r
    unfold termsF
    split
    · rename_i e h; rw [h] at hw; exact hw
    · rename_i w r1 h
      rw [h] at hw
      have hw' : r1 <:+ r := hw
      split
      · exact (termsF_suffix n _ _).trans ((eatF_suffix _ _).trans hw')
      · have hm := mustF_suffix [41] (eatF [44] r1)
        split
        · rename_i e h2; rw [h2] at hm; exact List.IsSuffix.trans hm ((eatF_suffix _ _).trans hw')
        · rename_i r3 h2; rw [h2] at hm; exact List.IsSuffix.trans (l₂ := eatF [44] r1) hm ((eatF_suffix _ _).trans hw')
theorem atomF_suffix (no : Bool) (r : Bytes) : (atomF no r).left <:+ r := by
  have hb := behindNot_suffix no r
  have hw := wordF_suffix (behindNot no r)
  unfold atomF
  split
  · rename_i e h; rw [h] at hw; exact List.IsSuffix.trans hw hb
  · rename_i w r2 h
    rw [h] at hw
    have hw' : r2 <:+ behindNot no r := hw
    split
    · exact hb
    · split
      · have ht := termsF_suffix 4 [] (eatF [40] r2)
        split
        · rename_i e h2; rw [h2] at ht; exact List.IsSuffix.trans ht ((eatF_suffix _ _).trans (hw'.trans hb))
        · rename_i ts r4 h2; rw [h2] at ht; exact List.IsSuffix.trans (l₂ := eatF [40] r2) ht ((eatF_suffix _ _).trans (hw'.trans hb))
      · exact (eatF_suffix _ _).trans (hw'.trans hb)
theorem bodyF_suffix : ∀ (n : Nat) (acc : List PAtom) (r : Bytes), (bodyF n acc r).left <:+ r
  | 0, _, _ => List.suffix_refl _
  | n + 1, acc, r => by
    have hw := atomF_suffix true r
    unfold bodyF
    split
    · rename_i e h; rw [h] at hw; exact hw
    · rename_i a r1 h
      rw [h] at hw
      have hw' : r1 <:+ r := hw
      split
      · exact (bodyF_suffix n _ _).trans ((eatF_suffix _ _).trans hw')
      · exact (eatF_suffix _ _).trans hw'
theorem tailF_suffix (r : Bytes) : (tailF r).left <:+ r := by
  unfold tailF
  split
  · exact (bodyF_suffix _ _ _).trans (eatF_suffix _ _)
  · exact eatF_suffix _ _
theorem ruleF_suffix (r : Bytes) : (ruleF r).left <:+ r := by
  have hh := atomF_suffix false r
  unfold ruleF headF
  split
  · rename_i e h; rw [h] at hh; exact hh
  · rename_i a r1 h
    rw [h] at hh
    have hh' : r1 <:+ r := hh
    have ht := tailF_suffix r1
    split
    · rename_i e h2; rw [h2] at ht; exact List.IsSuffix.trans ht hh'
    · rename_i b r3 h2
      rw [h2] at ht
      have ht' : r3 <:+ r1 := ht
      have hm := mustF_suffix [46] r3
      split
      · rename_i e h3; rw [h3] at hm; exact List.IsSuffix.trans hm (ht'.trans hh')
      · rename_i r4 h3; rw [h3] at hm; exact List.IsSuffix.trans (l₂ := r3) hm (ht'.trans hh')
end Go.Proofs.YtiiicochdidolaaGreat
namespace Go.Proofs.YtiiicochdidolaaGreat
structure AtomOk (a : PAtom) : Prop where
  name : nameL a.name.data.toList = true
  many : a.terms.length ≤ 4
  terms : ∀ t ∈ a.terms, (nameL t.name.data.toList = true ∨ varL t.name.data.toList = true) ∧ t.var = variableS t.name
structure RuleOk (r : PRule) : Prop where
  head : AtomOk r.head
  so : r.head.neg = false
  many : r.body.length ≤ 5
  body : ∀ a ∈ r.body, AtomOk a
theorem bytes_of_strOf (l : Bytes) : (strOf l).data.toList = l := by simp [strOf]
theorem wordF_ok {r r1 : Bytes} {w : Str} (h : wordF r = .ok (w, r1)) : nameL w.data.toList = true ∨ varL w.data.toList = true := by
  unfold wordF at h
  split at h
  · cases h
  · split at h
    · cases h
    · rename_i h2
      cases h
      rw [bytes_of_strOf]
      cases h3 : nameL (wordOf r)
      · cases h4 : varL (wordOf r)
        · exact absurd ⟨h3, h4⟩ h2
        · exact .inr rfl
      · exact .inl rfl
theorem termsF_ok : ∀ (n : Nat) (acc : List PTerm) (r : Bytes) {l : List PTerm} {r' : Bytes}, (∀ t ∈ acc, (nameL t.name.data.toList = true ∨ varL t.name.data.toList = true) ∧ t.var = variableS t.name) → termsF n acc r = .ok (l, r') →
    l.length ≤ acc.length + n ∧ l ≠ [] ∧ ∀ t ∈ l, (nameL t.name.data.toList = true ∨ varL t.name.data.toList = true) ∧ t.var = variableS t.name
  | 0, acc, r, l, r', _, h => by rw [termsF] at h; cases h
  | n + 1, acc, r, l, r', ha, h => by
    rw [termsF] at h
    cases hw : wordF r with
    | error e => rw [hw] at h; cases h
    | ok p =>
      obtain ⟨w, r1⟩ := p
      rw [hw] at h
      dsimp only at h
      have ha' : ∀ t ∈ acc ++ [⟨variableS w, w⟩], (nameL t.name.data.toList = true ∨ varL t.name.data.toList = true) ∧ t.var = variableS t.name := by
        intro t ht
        rcases List.mem_append.1 ht with ht | ht
        · exact ha t ht
        · obtain rfl := List.mem_singleton.1 ht
          exact ⟨wordF_ok hw, rfl⟩
      by_cases hc : eatsF [44] r1 = true
      · rw [if_pos hc] at h
        obtain ⟨h1, h2, h3⟩ := termsF_ok n _ _ ha' h
        refine ⟨by simp at h1; omega, h2, h3⟩
      · rw [if_neg hc] at h
        cases hm : mustF [41] (eatF [44] r1) with
        | error e => rw [hm] at h; cases h
        | ok p =>
          obtain ⟨u, r3⟩ := p
          rw [hm] at h
          cases h
          exact ⟨by simp, by simp, ha'⟩
theorem atomF_ok {no : Bool} {r r' : Bytes} {a : PAtom} (h : atomF no r = .ok (a, r')) : AtomOk a ∧ (no = false → a.neg = false) := by
  unfold atomF at h
  cases hw : wordF (behindNot no r) with
  | error e => rw [hw] at h; cases h
  | ok p =>
    obtain ⟨w, r2⟩ := p
    rw [hw] at h
    dsimp only at h
    have hk := wordF_ok hw
    split at h
    · cases h
    · rename_i hv
      have hn : nameL w.data.toList = true := hk.elim id (fun h => absurd h hv)
      have hneg : no = false → negOf no r = false := fun e => by rw [e]; rfl
      by_cases hc : eatsF [40] r2 = true
      · rw [if_pos hc] at h
        cases ht : termsF 4 [] (eatF [40] r2) with
        | error e => rw [ht] at h; cases h
        | ok p =>
          obtain ⟨ts, r4⟩ := p
          rw [ht] at h
          obtain ⟨h1, -, h3⟩ := termsF_ok 4 [] _ (by simp) ht
          cases h
          exact ⟨⟨hn, by simpa using h1, h3⟩, hneg⟩
      · rw [if_neg hc] at h
        cases h
        exact ⟨⟨hn, by simp, by simp⟩, hneg⟩
theorem bodyF_ok : ∀ (n : Nat) (acc : List PAtom) (r : Bytes) {l : List PAtom} {r' : Bytes}, (∀ a ∈ acc, AtomOk a) → bodyF n acc r = .ok (l, r') → l.length ≤ acc.length + n ∧ ∀ a ∈ l, AtomOk a
  | 0, acc, r, l, r', _, h => by rw [bodyF] at h; cases h
  | n + 1, acc, r, l, r', ha, h => by
    rw [bodyF] at h
    cases hw : atomF true r with
    | error e => rw [hw] at h; cases h
    | ok p =>
      obtain ⟨a, r1⟩ := p
      rw [hw] at h
      dsimp only at h
      have ha' : ∀ x ∈ acc ++ [a], AtomOk x := by
        intro t ht
        rcases List.mem_append.1 ht with ht | ht
        · exact ha t ht
        · obtain rfl := List.mem_singleton.1 ht
          exact (atomF_ok hw).1
      by_cases hc : eatsF [44] r1 = true
      · rw [if_pos hc] at h
        obtain ⟨h1, h2⟩ := bodyF_ok n _ _ ha' h
        exact ⟨by simp at h1; omega, h2⟩
      · rw [if_neg hc] at h
        cases h
        exact ⟨by simp, ha'⟩
theorem ruleF_ok {r r' : Bytes} {x : PRule} (h : ruleF r = .ok (x, r')) : RuleOk x := by
  unfold ruleF headF at h
  cases hw : atomF false r with
  | error e => rw [hw] at h; cases h
  | ok p =>
    obtain ⟨a, r1⟩ := p
    rw [hw] at h
    dsimp only at h
    cases ht : tailF r1 with
    | error e => rw [ht] at h; cases h
    | ok p =>
      obtain ⟨b, r3⟩ := p
      rw [ht] at h
      dsimp only at h
      cases hm : mustF [46] r3 with
      | error e => rw [hm] at h; cases h
      | ok p =>
        obtain ⟨u, r4⟩ := p
        rw [hm] at h
        cases h
        obtain ⟨h1, h2⟩ := atomF_ok hw
        have hb : b.length ≤ 5 ∧ ∀ a ∈ b, AtomOk a := by
          unfold tailF at ht
          split at ht
          · have := bodyF_ok 5 [] _ (by simp) ht
            exact ⟨by simpa using this.1, this.2⟩
          · cases ht
            exact ⟨by simp, by simp⟩
        exact ⟨h1, h2 rfl, hb.1, hb.2⟩
theorem progF_ok : ∀ (n : Nat) (acc : List PRule) (r : Bytes) {l : List PRule} {r' : Bytes}, (∀ x ∈ acc, RuleOk x) → progF n acc r = .ok (l, r') → l.length ≤ acc.length + n ∧ ∀ x ∈ l, RuleOk x
  | 0, acc, r, l, r', ha, h => by
    rw [progF] at h
    split at h
    · cases h; exact ⟨by simp, ha⟩
    · cases h
  | n + 1, acc, r, l, r', ha, h => by
    rw [progF] at h
    split at h
    · cases h; exact ⟨by simp, ha⟩
    · cases hw : ruleF (blankF false r) with
      | error e => rw [hw] at h; cases h
      | ok p =>
        obtain ⟨x, r1⟩ := p
        rw [hw] at h
        dsimp only at h
        obtain ⟨h1, h2⟩ := progF_ok n _ _ (fun y hy => by
          rcases List.mem_append.1 hy with hy | hy
          · exact ha y hy
          · obtain rfl := List.mem_singleton.1 hy
            exact ruleF_ok hw) h
        exact ⟨by simp at h1; omega, h2⟩
end Go.Proofs.YtiiicochdidolaaGreat
namespace Go.Proofs.YtiiicochdidolaaGreat
open Go.RowKit
abbrev Reader (α : Type) := (Nat → Prop) → World → List Value → α → Prop
def RdSlice {α : Type} (k : Nat) (R : Reader α) (S : Nat → Prop) (w : World) (v : Value) (l : List α) : Prop :=
  ∃ a cap, v = .slice a l.length cap ∧ l.length ≤ cap ∧ cap ≤ maxLen ∧ (a = none → cap = 0) ∧
    ∀ i x, l[i]? = some x → ∃ b off cs, a = some ⟨b, off, none⟩ ∧ S b ∧ b < w.heap.size ∧ cs.length = k ∧
      (∀ j u, cs[j]? = some u → w.cell? ⟨b, off + i * k + j, none⟩ = some u) ∧ R S w cs x
def Agree (S : Nat → Prop) (w w' : World) : Prop := w.heap.size ≤ w'.heap.size ∧ ∀ b, S b → b < w.heap.size → w'.heap[b]? = w.heap[b]?
structure Steady {α : Type} (R : Reader α) : Prop where
  agree : ∀ {S w w' cs x}, Agree S w w' → R S w cs x → R S w' cs x
  more : ∀ {S S' : Nat → Prop} {w cs x}, (∀ b, S b → b < w.heap.size → S' b) → R S w cs x → R S' w cs x
theorem Agree.cell {S : Nat → Prop} {w w' : World} (h : Agree S w w') {b : Nat} (hS : S b) (hb : b < w.heap.size) (off : Nat) : w'.cell? ⟨b, off, none⟩ = w.cell? ⟨b, off, none⟩ :=
  World.cell?_of_block (h.2 b hS hb)
theorem RdSlice.agree {α : Type} {k : Nat} {R : Reader α} (hR : Steady R) {S : Nat → Prop} {w w' : World} {v : Value} {l : List α} (h : Agree S w w') (r : RdSlice k R S w v l) : RdSlice k R S w' v l := by
  obtain ⟨a, cap, hv, h1, h2, h0, h3⟩ := r
  refine ⟨a, cap, hv, h1, h2, h0, fun i x hx => ?_⟩
  obtain ⟨b, off, cs, ha, hS, hb, hk, hc, hr⟩ := h3 i x hx
  exact ⟨b, off, cs, ha, hS, Nat.lt_of_lt_of_le hb h.1, hk, fun j u hu => (h.cell hS hb _).trans (hc j u hu), hR.agree h hr⟩
theorem RdSlice.more {α : Type} {k : Nat} {R : Reader α} (hR : Steady R) {S S' : Nat → Prop} {w : World} {v : Value} {l : List α} (h : ∀ b, S b → b < w.heap.size → S' b) (r : RdSlice k R S w v l) : RdSlice k R S' w v l := by
  obtain ⟨a, cap, hv, h1, h2, h0, h3⟩ := r
  refine ⟨a, cap, hv, h1, h2, h0, fun i x hx => ?_⟩
  obtain ⟨b, off, cs, ha, hS, hb, hk, hc, hr⟩ := h3 i x hx
  exact ⟨b, off, cs, ha, h b hS hb, hb, hk, hc, hR.more h hr⟩
theorem Steady.slice {α : Type} {k : Nat} {R : Reader α} (hR : Steady R) {f : List Value → Value} : Steady (α := List α) (fun S w cs l => RdSlice k R S w (f cs) l) :=
  ⟨fun h r => r.agree hR h, fun h r => r.more hR h⟩
def RStr : Reader Str := fun _ _ cs s => cs = [.string s]
theorem RStr.steady : Steady RStr := ⟨fun _ h => h, fun _ h => h⟩
abbrev RdStrs := RdSlice 1 RStr
def RInt : Reader Int := fun _ _ cs n => cs = [.int .i64 n]
theorem RInt.steady : Steady RInt := ⟨fun _ h => h, fun _ h => h⟩
abbrev RdInts := RdSlice 1 RInt
def RFact : Reader PFact := fun S w cs f => ∃ av, cs = [.string f.name, av] ∧ RdStrs S w av f.args
theorem RFact.steady : Steady RFact :=
  ⟨fun h ⟨av, hc, r⟩ => ⟨av, hc, r.agree RStr.steady h⟩, fun h ⟨av, hc, r⟩ => ⟨av, hc, r.more RStr.steady h⟩⟩
abbrev RdFacts := RdSlice 2 RFact
def RTerm : Reader PTerm := fun _ _ cs t => cs = [.bool t.var, .string t.name]
theorem RTerm.steady : Steady RTerm := ⟨fun _ h => h, fun _ h => h⟩
abbrev RdTerms := RdSlice 2 RTerm
def RAtom : Reader PAtom := fun S w cs a => ∃ tv, cs = [.bool a.neg, .string a.name, tv] ∧ RdTerms S w tv a.terms
theorem RAtom.steady : Steady RAtom :=
  ⟨fun h ⟨av, hc, r⟩ => ⟨av, hc, r.agree RTerm.steady h⟩, fun h ⟨av, hc, r⟩ => ⟨av, hc, r.more RTerm.steady h⟩⟩
abbrev RdAtoms := RdSlice 3 RAtom
def RRule : Reader PRule := fun S w cs r => ∃ tv bv, cs = [.bool r.head.neg, .string r.head.name, tv, bv] ∧ RdTerms S w tv r.head.terms ∧ RdAtoms S w bv r.body
theorem RRule.steady : Steady RRule :=
  ⟨fun h ⟨tv, bv, hc, r, q⟩ => ⟨tv, bv, hc, r.agree RTerm.steady h, q.agree RAtom.steady h⟩, fun h ⟨tv, bv, hc, r, q⟩ => ⟨tv, bv, hc, r.more RTerm.steady h, q.more RAtom.steady h⟩⟩
abbrev RdRules := RdSlice 4 RRule
def RBind : Reader PBind := fun _ _ cs b => cs = [.string b.var, .string b.name]
theorem RBind.steady : Steady RBind := ⟨fun _ h => h, fun _ h => h⟩
abbrev RdBinds := RdSlice 2 RBind
def RBinds : Reader (List PBind) := fun S w cs l => ∃ v, cs = [v] ∧ RdBinds S w v l
theorem RBinds.steady : Steady RBinds :=
  ⟨fun h ⟨av, hc, r⟩ => ⟨av, hc, r.agree RBind.steady h⟩, fun h ⟨av, hc, r⟩ => ⟨av, hc, r.more RBind.steady h⟩⟩
abbrev RdBindss := RdSlice 1 RBinds
theorem RdStrs.at {S : Nat → Prop} {w : World} {a : Option Addr} {n cap : Nat} {l : List Str} (h : RdStrs S w (.slice a n cap) l) {i : Nat} {x : Str} (hx : l[i]? = some x) :
    ∃ b off, a = some ⟨b, off, none⟩ ∧ S b ∧ b < w.heap.size ∧ w.cell? ⟨b, off + i, none⟩ = some (.string x) := by
  obtain ⟨a', cap', hv, _, _, _, h3⟩ := h
  obtain ⟨b, off, cs, ha, hS, hb, hk, hc, hr⟩ := h3 i x hx
  injection hv with e1 e2 e3
  subst e1
  have hr' : cs = [.string x] := hr
  subst hr'
  refine ⟨b, off, ha, hS, hb, ?_⟩
  have := hc 0 (.string x) rfl
  simpa using this
theorem RdInts.at {S : Nat → Prop} {w : World} {a : Option Addr} {n cap : Nat} {l : List Int} (h : RdInts S w (.slice a n cap) l) {i : Nat} {x : Int} (hx : l[i]? = some x) :
    ∃ b off, a = some ⟨b, off, none⟩ ∧ S b ∧ b < w.heap.size ∧ w.cell? ⟨b, off + i, none⟩ = some (.int .i64 x) := by
  obtain ⟨a', cap', hv, _, _, _, h3⟩ := h
  obtain ⟨b, off, cs, ha, hS, hb, hk, hc, hr⟩ := h3 i x hx
  injection hv with e1 e2 e3
  subst e1
  have hr' : cs = [.int .i64 x] := hr
  subst hr'
  refine ⟨b, off, ha, hS, hb, ?_⟩
  have := hc 0 (.int .i64 x) rfl
  simpa using this
theorem RdFacts.at {S : Nat → Prop} {w : World} {a : Option Addr} {n cap : Nat} {l : List PFact} (h : RdFacts S w (.slice a n cap) l) {i : Nat} {x : PFact} (hx : l[i]? = some x) :
    ∃ b off av, a = some ⟨b, off, none⟩ ∧ S b ∧ b < w.heap.size ∧ w.cell? ⟨b, off + i * 2, none⟩ = some (.string x.name) ∧ w.cell? ⟨b, off + i * 2 + 1, none⟩ = some av ∧ RdStrs S w av x.args := by
  obtain ⟨a', cap', hv, _, _, _, h3⟩ := h
  obtain ⟨b, off, cs, ha, hS, hb, hk, hc, av, hr, hq⟩ := h3 i x hx
  injection hv with e1 e2 e3
  subst e1
  subst hr
  refine ⟨b, off, av, ha, hS, hb, ?_, ?_, hq⟩
  · simpa using hc 0 _ rfl
  · simpa using hc 1 _ rfl
theorem RdSlice.form {α : Type} {k : Nat} {R : Reader α} {S : Nat → Prop} {w : World} {v : Value} {l : List α} (h : RdSlice k R S w v l) : ∃ a cap, v = .slice a l.length cap ∧ l.length ≤ cap ∧ cap ≤ maxLen ∧ (a = none → cap = 0) :=
  let ⟨a, cap, hv, h1, h2, h0, _⟩ := h; ⟨a, cap, hv, h1, h2, h0⟩
theorem RdInts.block {S : Nat → Prop} {w : World} {b : Nat} {t : TypeId} {fr : Nat × Nat} {l : List Int} {n : Nat} (hl : l.length = n) (h : w.heap[b]? = some (.cells (l.map (Value.int .i64)).toArray t fr)) (hS : S b) (hm : n ≤ maxLen) :
    RdInts S w (.slice (some ⟨b, 0, none⟩) n n) l := by
  subst hl
  refine ⟨_, _, rfl, Nat.le_refl _, hm, (fun h => by cases h), fun i x hx => ⟨b, 0, [.int .i64 x], rfl, hS, (Array.getElem?_eq_some_iff.1 h).1, rfl, ?_, rfl⟩⟩
  intro j u hu
  match j, hu with
  | 0, hu =>
    have hu' : Value.int .i64 x = u := by simpa using hu
    subst hu'
    simp [World.cell?, h, hx]
theorem ret_int {k : IntKind} {a b : Int} (h : a = b) : Ending.returned (.int k a) = .returned (.int k b) := by rw [h]
theorem ret_bool {a b : Bool} (h : a = b) : Ending.returned (.bool a) = .returned (.bool b) := by rw [h]
theorem heap_new_at {w : World} {o : Obj} {n : Nat} (h : w.heap.size = n) : (w.alloc o).heap[n]? = some o := by subst h; exact heap_alloc_new w o
def Fresh (w w' : World) : Prop := ∃ q os, w' = Sort.grow (w.drewN q) os
theorem Fresh.refl (w : World) : Fresh w w := ⟨0, #[], by simp [Sort.grow, World.drewN]⟩
theorem Fresh.alloc {w w' : World} (h : Fresh w w') (o : Obj) : Fresh w (w'.alloc o) := by
  obtain ⟨q, os, rfl⟩ := h
  exact ⟨q, os ++ #[o], by rw [Sort.alloc_eq_grow, Sort.grow_grow]⟩
theorem Fresh.drew {w w' : World} (h : Fresh w w') : Fresh w w'.drew := by
  obtain ⟨q, os, rfl⟩ := h
  exact ⟨q + 1, os, rfl⟩
theorem Fresh.trans {a b c : World} (h : Fresh a b) (k : Fresh b c) : Fresh a c := by
  obtain ⟨q, os, rfl⟩ := h
  obtain ⟨q', os', rfl⟩ := k
  exact ⟨q + q', os ++ os', by simp [Sort.grow, World.drewN, Nat.add_assoc]⟩
theorem Fresh.below {w w' : World} (h : Fresh w w') : Below w.heap.size w w' := by
  obtain ⟨q, os, rfl⟩ := h
  exact ⟨rfl, rfl, rfl, by simp [Sort.grow, World.drewN], fun k hk => by simp [Sort.grow, World.drewN, Array.getElem?_append, hk]⟩
theorem Below.agree' {B : Nat} {w w' : World} (h : Below B w w') : Agree (fun b => b < B) w w' := ⟨h.size, fun b hb _ => h.block b hb⟩
theorem Below.agree {S : Nat → Prop} {w w' : World} (h : Below w.heap.size w w') : Agree S w w' := ⟨h.size, fun b _ hb => h.block b hb⟩
theorem Agree.alloc {S : Nat → Prop} {w w' : World} (h : Agree S w w') (o : Obj) : Agree S w (w'.alloc o) :=
  ⟨Nat.le_trans h.1 (by simp), fun b hb hlt => (Below.heap_alloc _ _ _ (Nat.lt_of_lt_of_le hlt h.1)).trans (h.2 b hb hlt)⟩
theorem Agree.refl (S : Nat → Prop) (w : World) : Agree S w w := ⟨Nat.le_refl _, fun _ _ _ => rfl⟩
theorem Agree.trans {S : Nat → Prop} {a b c : World} (h : Agree S a b) (k : Agree S b c) : Agree S a c :=
  ⟨Nat.le_trans h.1 k.1, fun i hi hlt => (k.2 i hi (Nat.lt_of_lt_of_le hlt h.1)).trans (h.2 i hi hlt)⟩
theorem cell_below {B : Nat} {w w' : World} (h : Below B w w') {c : Nat} (hc : c < B) (off : Nat) : w'.cell? ⟨c, off, none⟩ = w.cell? ⟨c, off, none⟩ := h.cell (p := ⟨c, off, none⟩) hc
end Go.Proofs.YtiiicochdidolaaGreat
namespace Go.Proofs.YtiiicochdidolaaGreat
open Go.RowKit
set_option maxHeartbeats 2000000 in
theorem namedCalls (s : Str) (w : World) : Calls Tryz.prog 109 #[.string s] w fun e w' => e = .returned (.bool (named s)) ∧ w = w' := by
  by_cases h0 : s.size < 1
  · rw [named_empty s h0]
    go_enter Tryz.func109, Tryz.ntmps109
    go_wp2
    go_ret
    exact ⟨rfl, rfl⟩
  · by_cases h12 : 12 < s.size
    · rw [named_long s h12]
      have hb : ¬ ((s.size : Int) < 1) := by omega
      go_enter Tryz.func109, Tryz.ntmps109
      go_wp2
      go_ret
      exact ⟨rfl, rfl⟩
    · rw [named_ok s (by omega) (by omega)]
      have hb : ¬ ((s.size : Int) < 1) := by omega
      have hb2 : ¬ ((12 : Int) < s.size) := by omega
      go_enter Tryz.func109, Tryz.ntmps109
      go_wp2
      go_loop [16, 3, 4, 5] (fun i _ _ _ => ∃ k : Nat, k ≤ s.size ∧ i = .int .i64 k ∧ okFrom 0 s.data.toList = okFrom k (s.data.toList.drop k)) (fun i _ _ _ => s.size - (intOf i).toNat)
      case atStart => exact ⟨0, Nat.zero_le _, rfl, rfl⟩
      case round =>
        obtain ⟨k, hk, rfl, hr⟩ := hrel
        have HR := Lib.hid hr
        clear hr
        by_cases hlt : k < s.size
        · by_cases hk0 : k = 0
          · subst hk0
            rcases byte_cases s[0] with ⟨⟨b1, b2⟩, q1, q2, q3⟩ | ⟨⟨b1, b2⟩, q1, q2, q3⟩ | ⟨⟨b1, b2⟩, q1, q2, q3⟩ | ⟨⟨b1, b2⟩, q1, q2, q3⟩ | ⟨⟨b1, b2⟩, q1, q2, q3⟩ | ⟨⟨b1, b2⟩, q1, q2, q3⟩ | ⟨⟨b1, b2⟩, q1, q2, q3⟩ | ⟨⟨b1, b2⟩, q1, q2, q3⟩ | ⟨⟨b1, b2⟩, q1, q2, q3⟩
            case' inl | inr.inl =>
              have Q := Lib.hid (okFrom_here hlt HR.out (.inl q1))
              clear q1 q2 q3
              go_wp2
              go_round
              case rel => exact ⟨1, by omega, by go_num, Q.out⟩
              case measure => simp [intOf]; omega
            all_goals
              have Q := Lib.hid (okFrom_bad hlt HR.out q1 (.inl rfl))
              clear q1 q2 q3
              try have z1 : decide ((s[0].toNat : Int) ≤ 57) = false := decide_eq_false (by omega)
              try have z2 : decide ((s[0].toNat : Int) ≤ 122) = false := decide_eq_false (by omega)
              try have z3 : ((s[0].toNat : Int) != 95) = true := bne_iff_ne.2 (by omega)
              try have z4 : ((s[0].toNat : Int) != 95) = false := bne_eq_false_iff_eq.2 (by omega)
              go_wp2
              go_ret
              exact ⟨ret_bool Q.out.symm, rfl⟩
          · have hkb : ((k : Int) == 0) = false := by simpa using hk0
            rcases byte_cases s[k] with ⟨⟨b1, b2⟩, q1, q2, q3⟩ | ⟨⟨b1, b2⟩, q1, q2, q3⟩ | ⟨⟨b1, b2⟩, q1, q2, q3⟩ | ⟨⟨b1, b2⟩, q1, q2, q3⟩ | ⟨⟨b1, b2⟩, q1, q2, q3⟩ | ⟨⟨b1, b2⟩, q1, q2, q3⟩ | ⟨⟨b1, b2⟩, q1, q2, q3⟩ | ⟨⟨b1, b2⟩, q1, q2, q3⟩ | ⟨⟨b1, b2⟩, q1, q2, q3⟩
            case' inl | inr.inl | inr.inr.inl | inr.inr.inr.inl =>
              have Q := Lib.hid (okFrom_here hlt HR.out (.inr ⟨hk0, q3⟩))
              clear q1 q2 q3 hk0
              try have z1 : decide ((s[k].toNat : Int) ≤ 57) = false := decide_eq_false (by omega)
              try have z2 : decide ((s[k].toNat : Int) ≤ 122) = false := decide_eq_false (by omega)
              try have z3 : ((s[k].toNat : Int) != 95) = true := bne_iff_ne.2 (by omega)
              try have z4 : ((s[k].toNat : Int) != 95) = false := bne_eq_false_iff_eq.2 (by omega)
              go_wp2
              go_round
              case rel => exact ⟨k + 1, by omega, by go_num, Q.out⟩
              case measure => simp [intOf]; omega
            all_goals
              have Q := Lib.hid (okFrom_bad hlt HR.out q1 (.inr q3))
              clear q1 q2 q3 hk0
              try have z1 : decide ((s[k].toNat : Int) ≤ 57) = false := decide_eq_false (by omega)
              try have z2 : decide ((s[k].toNat : Int) ≤ 122) = false := decide_eq_false (by omega)
              try have z3 : ((s[k].toNat : Int) != 95) = true := bne_iff_ne.2 (by omega)
              try have z4 : ((s[k].toNat : Int) != 95) = false := bne_eq_false_iff_eq.2 (by omega)
              go_wp2
              go_ret
              exact ⟨ret_bool Q.out.symm, rfl⟩
        · go_wp2
          go_ret
          refine ⟨?_, rfl⟩
          rw [HR.out, drop_bytes_end s k (by omega)]
          rfl
end Go.Proofs.YtiiicochdidolaaGreat
