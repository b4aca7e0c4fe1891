/-
  PLAIN: how rules are read out of a text (chapter 2): a reading takes what is left of the text; it gives what was read and what is left, or what is wrong and what was left there.
-/
import Derived.Test.YtmnpneandkiblaaNamesP
namespace Go.Proofs.Ytmnpneandkiblaa

abbrev Bytes := List UInt8
def strOf (l : Bytes) : Str := ⟨l.toArray⟩
/-- What a reading comes to. -/
abbrev Got (α : Type) := Except (Int × Bytes) (α × Bytes)

def blankF : Bool → Bytes → Bytes
  | _, [] => []
  | note, c :: r => if c = 10 then blankF false r else if c = 37 then blankF true r else if c ≠ 32 ∧ note = false then c :: r else blankF note r
def eatsF (sign : Bytes) (r : Bytes) : Bool := sign.isPrefixOf (blankF false r)
def eatF (sign : Bytes) (r : Bytes) : Bytes := if eatsF sign r then (blankF false r).drop sign.length else blankF false r
def mustF (sign : Bytes) (r : Bytes) : Got Unit := if eatsF sign r then .ok ((), eatF sign r) else .error (2, eatF sign r)
def wordOf (r : Bytes) : Bytes := (blankF false r).takeWhile signB
def wordF (r : Bytes) : Got Str :=
  if wordOf r = [] then .error (2, blankF false r) else if nameL (wordOf r) = false ∧ varL (wordOf r) = false then .error (7, blankF false r) else .ok (strOf (wordOf r), (blankF false r).drop (wordOf r).length)
def termsF : Nat → List PTerm → Bytes → Got (List PTerm)
  | 0, _, r => .error (5, r)
  | n + 1, acc, r => match wordF r with
    | .error e => .error e
    | .ok (w, r1) => if eatsF [44] r1 then termsF n (acc ++ [⟨variableS w, w⟩]) (eatF [44] r1) else match mustF [41] (eatF [44] r1) with
      | .error e => .error e
      | .ok (_, r3) => .ok (acc ++ [⟨variableS w, w⟩], r3)
def negOf (no : Bool) (r : Bytes) : Bool := no && eatsF [33] r
def behindNot (no : Bool) (r : Bytes) : Bytes := blankF false (if no then eatF [33] r else r)
def atomF (no : Bool) (r : Bytes) : Got PAtom :=
  match wordF (behindNot no r) with
  | .error e => .error e
  | .ok (w, r2) => if variableS w then .error (7, behindNot no r) else if eatsF [40] r2 then match termsF 4 [] (eatF [40] r2) with
      | .error e => .error e
      | .ok (ts, r4) => .ok (⟨negOf no r, w, ts⟩, r4)
    else .ok (⟨negOf no r, w, []⟩, eatF [40] r2)
def bodyF : Nat → List PAtom → Bytes → Got (List PAtom)
  | 0, _, r => .error (5, r)
  | n + 1, acc, r => match atomF true r with
    | .error e => .error e
    | .ok (a, r1) => if eatsF [44] r1 then bodyF n (acc ++ [a]) (eatF [44] r1) else .ok (acc ++ [a], eatF [44] r1)
def headF (r : Bytes) : Got PAtom := atomF false r
def tailF (r1 : Bytes) : Got (List PAtom) := if eatsF [58, 45] r1 then bodyF 5 [] (eatF [58, 45] r1) else .ok ([], eatF [58, 45] r1)
def ruleF (r : Bytes) : Got PRule := match headF r with
  | .error e => .error e
  | .ok (h, r1) => match tailF r1 with
    | .error e => .error e
    | .ok (b, r3) => match mustF [46] r3 with
      | .error e => .error e
      | .ok (_, r4) => .ok (⟨h, b⟩, r4)
def progF : Nat → List PRule → Bytes → Got (List PRule)
  | 0, acc, r => if blankF false r = [] then .ok (acc, []) else .error (5, blankF false r)
  | n + 1, acc, r => if blankF false r = [] then .ok (acc, []) else match ruleF (blankF false r) with
    | .error e => .error e
    | .ok (x, r1) => progF n (acc ++ [x]) r1
/-- syntax.Parse: the rules; what is wrong (0: nothing), and where. -/
def parseF (s : Str) : List PRule × Int × Int :=
  if 3000 < s.size then ([], 4, 0) else match progF 16 [] s.data.toList with
    | .ok (l, _) => (l, 0, 0)
    | .error (e, r) => ([], e, (s.size : Int) - r.length)
def bodyAllF (r : Bytes) : Got (List PAtom) := match bodyF 5 [] r with
  | .error e => .error e
  | .ok (l, r1) => if blankF false r1 = [] then .ok (l, []) else .error (2, blankF false r1)
/-- syntax.Body. -/
def parseBodyF (s : Str) : List PAtom × Int × Int :=
  if 3000 < s.size then ([], 4, 0) else match bodyAllF s.data.toList with
    | .ok (l, _) => (l, 0, 0)
    | .error (e, r) => ([], e, (s.size : Int) - r.length)

/-! ### What is left is an end of what there was. -/
theorem blankF_suffix : ∀ (note : Bool) (r : Bytes), blankF note r <:+ r
  | _, [] => List.suffix_refl _
  | note, c :: r => by
    unfold blankF
    split
    · exact (blankF_suffix false r).trans (List.suffix_cons _ _)
    · split
      · exact (blankF_suffix true r).trans (List.suffix_cons _ _)
      · split
        · exact List.suffix_refl _
        · exact (blankF_suffix note r).trans (List.suffix_cons _ _)
theorem eatF_suffix (sign r : Bytes) : eatF sign r <:+ r := by
  unfold eatF
  split
  · exact (List.drop_suffix _ _).trans (blankF_suffix _ _)
  · exact blankF_suffix _ _
theorem behindNot_suffix (no : Bool) (r : Bytes) : behindNot no r <:+ r := by
  unfold behindNot
  refine (blankF_suffix _ _).trans ?_
  split
  · exact eatF_suffix _ _
  · exact List.suffix_refl _
theorem blankF_idem : ∀ (note : Bool) (r : Bytes), blankF false (blankF note r) = blankF note r
  | _, [] => rfl
  | note, c :: r => by
    rw [blankF]
    split
    · exact blankF_idem false r
    · split
      · exact blankF_idem true r
      · split
        · rename_i h1 h2 h3
          rw [blankF, if_neg h1, if_neg h2, if_pos ⟨h3.1, rfl⟩]
        · exact blankF_idem note r
/-- What is left where something is read, or is wrong. -/
def Got.left {α : Type} : Got α → Bytes
  | .ok (_, r) => r
  | .error (_, r) => r
theorem wordF_suffix (r : Bytes) : (wordF r).left <:+ r := by
  unfold wordF
  split
  · exact blankF_suffix _ _
  · split
    · exact blankF_suffix _ _
    · exact (List.drop_suffix _ _).trans (blankF_suffix _ _)
theorem mustF_suffix (sign r : Bytes) : (mustF sign r).left <:+ r := by
  unfold mustF
  split <;> exact eatF_suffix _ _
theorem termsF_suffix : ∀ (n : Nat) (acc : List PTerm) (r : Bytes), (termsF n acc r).left <:+ r
  | 0, _, _ => List.suffix_refl _
  | n + 1, acc, r => by
    have hw := wordF_suffix r
    unfold termsF
    split
    · rename_i e h; rw [h] at hw; exact hw
    · rename_i w r1 h
      rw [h] at hw
      have hw' : r1 <:+ r := hw
      split
      · exact (termsF_suffix n _ _).trans ((eatF_suffix _ _).trans hw')
      · have hm := mustF_suffix [41] (eatF [44] r1)
        split
        · rename_i e h2; rw [h2] at hm; exact List.IsSuffix.trans hm ((eatF_suffix _ _).trans hw')
        · rename_i r3 h2; rw [h2] at hm; exact List.IsSuffix.trans (l₂ := eatF [44] r1) hm ((eatF_suffix _ _).trans hw')
theorem atomF_suffix (no : Bool) (r : Bytes) : (atomF no r).left <:+ r := by
  have hb := behindNot_suffix no r
  have hw := wordF_suffix (behindNot no r)
  unfold atomF
  split
  · rename_i e h; rw [h] at hw; exact List.IsSuffix.trans hw hb
  · rename_i w r2 h
    rw [h] at hw
    have hw' : r2 <:+ behindNot no r := hw
    split
    · exact hb
    · split
      · have ht := termsF_suffix 4 [] (eatF [40] r2)
        split
        · rename_i e h2; rw [h2] at ht; exact List.IsSuffix.trans ht ((eatF_suffix _ _).trans (hw'.trans hb))
        · rename_i ts r4 h2; rw [h2] at ht; exact List.IsSuffix.trans (l₂ := eatF [40] r2) ht ((eatF_suffix _ _).trans (hw'.trans hb))
      · exact (eatF_suffix _ _).trans (hw'.trans hb)
theorem bodyF_suffix : ∀ (n : Nat) (acc : List PAtom) (r : Bytes), (bodyF n acc r).left <:+ r
  | 0, _, _ => List.suffix_refl _
  | n + 1, acc, r => by
    have hw := atomF_suffix true r
    unfold bodyF
    split
    · rename_i e h; rw [h] at hw; exact hw
    · rename_i a r1 h
      rw [h] at hw
      have hw' : r1 <:+ r := hw
      split
      · exact (bodyF_suffix n _ _).trans ((eatF_suffix _ _).trans hw')
      · exact (eatF_suffix _ _).trans hw'
theorem tailF_suffix (r : Bytes) : (tailF r).left <:+ r := by
  unfold tailF
  split
  · exact (bodyF_suffix _ _ _).trans (eatF_suffix _ _)
  · exact eatF_suffix _ _
theorem ruleF_suffix (r : Bytes) : (ruleF r).left <:+ r := by
  have hh := atomF_suffix false r
  unfold ruleF headF
  split
  · rename_i e h; rw [h] at hh; exact hh
  · rename_i a r1 h
    rw [h] at hh
    have hh' : r1 <:+ r := hh
    have ht := tailF_suffix r1
    split
    · rename_i e h2; rw [h2] at ht; exact List.IsSuffix.trans ht hh'
    · rename_i b r3 h2
      rw [h2] at ht
      have ht' : r3 <:+ r1 := ht
      have hm := mustF_suffix [46] r3
      split
      · rename_i e h3; rw [h3] at hm; exact List.IsSuffix.trans hm (ht'.trans hh')
      · rename_i r4 h3; rw [h3] at hm; exact List.IsSuffix.trans (l₂ := r3) hm (ht'.trans hh')
end Go.Proofs.Ytmnpneandkiblaa
