/-
  PLAIN: how rules are written, and that what is written reads as it was.
-/
import Derived.Test.YtobbjapmdpkogaaSynP
namespace Go.Proofs.Ytobbjapmdpkogaa

def namesB : List PTerm → Bytes
  | [] => []
  | t :: l => t.name.data.toList ++ (match l with | [] => [] | _ => 44 :: namesB l)
def argsB (l : List PTerm) : Bytes := match l with | [] => [] | _ => 40 :: (namesB l ++ [41])
def atomB (a : PAtom) : Bytes := (if a.neg then [33] else []) ++ (a.name.data.toList ++ argsB a.terms)
def bodyB : List PAtom → Bytes
  | [] => []
  | a :: l => atomB a ++ (match l with | [] => [] | _ => 44 :: 32 :: bodyB l)
def tailB (l : List PAtom) : Bytes := match l with | [] => [] | _ => 32 :: 58 :: 45 :: 32 :: bodyB l
def ruleB (r : PRule) : Bytes := atomB r.head ++ (tailB r.body ++ [46, 10])
def progB : List PRule → Bytes
  | [] => []
  | r :: l => ruleB r ++ progB l

/-! ### What is read is right -/
structure AtomOk (a : PAtom) : Prop where
  name : nameL a.name.data.toList = true
  many : a.terms.length ≤ 4
  terms : ∀ t ∈ a.terms, (nameL t.name.data.toList = true ∨ varL t.name.data.toList = true) ∧ t.var = variableS t.name
structure RuleOk (r : PRule) : Prop where
  head : AtomOk r.head
  so : r.head.neg = false
  many : r.body.length ≤ 5
  body : ∀ a ∈ r.body, AtomOk a
theorem bytes_of_strOf (l : Bytes) : (strOf l).data.toList = l := by simp [strOf]
theorem strOf_of_bytes (s : Str) : strOf s.data.toList = s := by cases s; simp [strOf]
theorem wordF_ok {r r1 : Bytes} {w : Str} (h : wordF r = .ok (w, r1)) : nameL w.data.toList = true ∨ varL w.data.toList = true := by
  unfold wordF at h
  split at h
  · cases h
  · split at h
    · cases h
    · rename_i h2
      cases h
      rw [bytes_of_strOf]
      cases h3 : nameL (wordOf r)
      · cases h4 : varL (wordOf r)
        · exact absurd ⟨h3, h4⟩ h2
        · exact .inr rfl
      · exact .inl rfl
theorem termsF_ok : ∀ (n : Nat) (acc : List PTerm) (r : Bytes) {l : List PTerm} {r' : Bytes}, (∀ t ∈ acc, (nameL t.name.data.toList = true ∨ varL t.name.data.toList = true) ∧ t.var = variableS t.name) → termsF n acc r = .ok (l, r') →
    l.length ≤ acc.length + n ∧ l ≠ [] ∧ ∀ t ∈ l, (nameL t.name.data.toList = true ∨ varL t.name.data.toList = true) ∧ t.var = variableS t.name
  | 0, acc, r, l, r', _, h => by rw [termsF] at h; cases h
  | n + 1, acc, r, l, r', ha, h => by
    rw [termsF] at h
    cases hw : wordF r with
    | error e => rw [hw] at h; cases h
    | ok p =>
      obtain ⟨w, r1⟩ := p
      rw [hw] at h
      dsimp only at h
      have ha' : ∀ t ∈ acc ++ [⟨variableS w, w⟩], (nameL t.name.data.toList = true ∨ varL t.name.data.toList = true) ∧ t.var = variableS t.name := by
        intro t ht
        rcases List.mem_append.1 ht with ht | ht
        · exact ha t ht
        · obtain rfl := List.mem_singleton.1 ht
          exact ⟨wordF_ok hw, rfl⟩
      by_cases hc : eatsF [44] r1 = true
      · rw [if_pos hc] at h
        obtain ⟨h1, h2, h3⟩ := termsF_ok n _ _ ha' h
        refine ⟨by simp at h1; omega, h2, h3⟩
      · rw [if_neg hc] at h
        cases hm : mustF [41] (eatF [44] r1) with
        | error e => rw [hm] at h; cases h
        | ok p =>
          obtain ⟨u, r3⟩ := p
          rw [hm] at h
          cases h
          exact ⟨by simp, by simp, ha'⟩
theorem atomF_ok {no : Bool} {r r' : Bytes} {a : PAtom} (h : atomF no r = .ok (a, r')) : AtomOk a ∧ (no = false → a.neg = false) := by
  unfold atomF at h
  cases hw : wordF (behindNot no r) with
  | error e => rw [hw] at h; cases h
  | ok p =>
    obtain ⟨w, r2⟩ := p
    rw [hw] at h
    dsimp only at h
    have hk := wordF_ok hw
    split at h
    · cases h
    · rename_i hv
      have hn : nameL w.data.toList = true := hk.elim id (fun h => absurd h hv)
      have hneg : no = false → negOf no r = false := fun e => by rw [e]; rfl
      by_cases hc : eatsF [40] r2 = true
      · rw [if_pos hc] at h
        cases ht : termsF 4 [] (eatF [40] r2) with
        | error e => rw [ht] at h; cases h
        | ok p =>
          obtain ⟨ts, r4⟩ := p
          rw [ht] at h
          obtain ⟨h1, -, h3⟩ := termsF_ok 4 [] _ (by simp) ht
          cases h
          exact ⟨⟨hn, by simpa using h1, h3⟩, hneg⟩
      · rw [if_neg hc] at h
        cases h
        exact ⟨⟨hn, by simp, by simp⟩, hneg⟩
theorem bodyF_ok : ∀ (n : Nat) (acc : List PAtom) (r : Bytes) {l : List PAtom} {r' : Bytes}, (∀ a ∈ acc, AtomOk a) → bodyF n acc r = .ok (l, r') → l.length ≤ acc.length + n ∧ ∀ a ∈ l, AtomOk a
  | 0, acc, r, l, r', _, h => by rw [bodyF] at h; cases h
  | n + 1, acc, r, l, r', ha, h => by
    rw [bodyF] at h
    cases hw : atomF true r with
    | error e => rw [hw] at h; cases h
    | ok p =>
      obtain ⟨a, r1⟩ := p
      rw [hw] at h
      dsimp only at h
      have ha' : ∀ x ∈ acc ++ [a], AtomOk x := by
        intro t ht
        rcases List.mem_append.1 ht with ht | ht
        · exact ha t ht
        · obtain rfl := List.mem_singleton.1 ht
          exact (atomF_ok hw).1
      by_cases hc : eatsF [44] r1 = true
      · rw [if_pos hc] at h
        obtain ⟨h1, h2⟩ := bodyF_ok n _ _ ha' h
        exact ⟨by simp at h1; omega, h2⟩
      · rw [if_neg hc] at h
        cases h
        exact ⟨by simp, ha'⟩
theorem ruleF_ok {r r' : Bytes} {x : PRule} (h : ruleF r = .ok (x, r')) : RuleOk x := by
  unfold ruleF headF at h
  cases hw : atomF false r with
  | error e => rw [hw] at h; cases h
  | ok p =>
    obtain ⟨a, r1⟩ := p
    rw [hw] at h
    dsimp only at h
    cases ht : tailF r1 with
    | error e => rw [ht] at h; cases h
    | ok p =>
      obtain ⟨b, r3⟩ := p
      rw [ht] at h
      dsimp only at h
      cases hm : mustF [46] r3 with
      | error e => rw [hm] at h; cases h
      | ok p =>
        obtain ⟨u, r4⟩ := p
        rw [hm] at h
        cases h
        obtain ⟨h1, h2⟩ := atomF_ok hw
        have hb : b.length ≤ 5 ∧ ∀ a ∈ b, AtomOk a := by
          unfold tailF at ht
          split at ht
          · have := bodyF_ok 5 [] _ (by simp) ht
            exact ⟨by simpa using this.1, this.2⟩
          · cases ht
            exact ⟨by simp, by simp⟩
        exact ⟨h1, h2 rfl, hb.1, hb.2⟩
theorem progF_ok : ∀ (n : Nat) (acc : List PRule) (r : Bytes) {l : List PRule} {r' : Bytes}, (∀ x ∈ acc, RuleOk x) → progF n acc r = .ok (l, r') → l.length ≤ acc.length + n ∧ ∀ x ∈ l, RuleOk x
  | 0, acc, r, l, r', ha, h => by
    rw [progF] at h
    split at h
    · cases h; exact ⟨by simp, ha⟩
    · cases h
  | n + 1, acc, r, l, r', ha, h => by
    rw [progF] at h
    split at h
    · cases h; exact ⟨by simp, ha⟩
    · cases hw : ruleF (blankF false r) with
      | error e => rw [hw] at h; cases h
      | ok p =>
        obtain ⟨x, r1⟩ := p
        rw [hw] at h
        dsimp only at h
        obtain ⟨h1, h2⟩ := progF_ok n _ _ (fun y hy => by
          rcases List.mem_append.1 hy with hy | hy
          · exact ha y hy
          · obtain rfl := List.mem_singleton.1 hy
            exact ruleF_ok hw) h
        exact ⟨by simp at h1; omega, h2⟩

/-! ### What is written reads as it was -/
theorem blankF_sign {c : UInt8} {r : Bytes} (h1 : c ≠ 10) (h2 : c ≠ 37) (h3 : c ≠ 32) : blankF false (c :: r) = c :: r := by
  rw [blankF, if_neg h1, if_neg h2, if_pos ⟨h3, rfl⟩]
theorem signB_ne {c : UInt8} (h : signB c = true) : c ≠ 10 ∧ c ≠ 37 ∧ c ≠ 32 ∧ c ≠ 44 ∧ c ≠ 33 := by
  refine ⟨?_, ?_, ?_, ?_, ?_⟩ <;> (intro e; subst e; exact absurd h (by decide))
theorem nameL_signs {l : Bytes} (h : nameL l = true ∨ varL l = true) : l ≠ [] ∧ ∀ c ∈ l, signB c = true := by
  cases l with
  | nil => rcases h with h | h <;> simp [nameL, varL] at h
  | cons c l =>
    refine ⟨by simp, fun x hx => ?_⟩
    rcases h with h | h
    · simp only [nameL, Bool.and_eq_true, decide_eq_true_eq, List.all_eq_true] at h
      rcases List.mem_cons.1 hx with rfl | hx
      · simp [signB, h.2.1]
      · exact h.2.2 x hx
    · simp only [varL, Bool.and_eq_true, decide_eq_true_eq, List.all_eq_true] at h
      rcases List.mem_cons.1 hx with rfl | hx
      · simp [signB, h.2.1]
      · exact h.2.2 x hx
/-- What follows begins with no sign. -/
def NoSign (z : Bytes) : Prop := ∀ c ∈ z.head?, signB c = false
theorem takeWhile_signs : ∀ {l z : Bytes}, (∀ c ∈ l, signB c = true) → NoSign z → (l ++ z).takeWhile signB = l
  | [], [], _, _ => rfl
  | [], c :: z, _, hz => by
    have : signB c = false := hz c (by simp)
    simp [List.takeWhile, this]
  | c :: l, z, h, hz => by
    rw [List.cons_append, List.takeWhile, h c (by simp), takeWhile_signs (fun x hx => h x (by simp [hx])) hz]
theorem blankF_word {l z : Bytes} (hl : l ≠ []) (h : ∀ c ∈ l, signB c = true) : blankF false (l ++ z) = l ++ z := by
  cases l with
  | nil => exact absurd rfl hl
  | cons c l =>
    obtain ⟨h1, h2, h3, -⟩ := signB_ne (h c (by simp))
    exact blankF_sign h1 h2 h3
theorem wordF_print {w : Str} {z : Bytes} (hw : nameL w.data.toList = true ∨ varL w.data.toList = true) (hz : NoSign z) : wordF (w.data.toList ++ z) = .ok (w, z) := by
  obtain ⟨h1, h2⟩ := nameL_signs hw
  have hb := blankF_word (z := z) h1 h2
  have hk : wordOf (w.data.toList ++ z) = w.data.toList := by unfold wordOf; rw [hb, takeWhile_signs h2 hz]
  unfold wordF
  rw [hk, if_neg h1, if_neg (by rcases hw with h | h <;> simp [h]), hb, strOf_of_bytes]
  simp
theorem termsF_print : ∀ (ts : List PTerm) (n : Nat) (acc : List PTerm) (z : Bytes), ts ≠ [] → ts.length ≤ n → (∀ t ∈ ts, (nameL t.name.data.toList = true ∨ varL t.name.data.toList = true) ∧ t.var = variableS t.name) → termsF n acc (namesB ts ++ 41 :: z) = .ok (acc ++ ts, z)
  | [], _, _, _, h, _, _ => absurd rfl h
  | t :: ts, 0, _, _, _, h, _ => by simp at h
  | [t], n + 1, acc, z, _, _, h => by
    have ht := h t (by simp)
    have e : (⟨variableS t.name, t.name⟩ : PTerm) = t := by rw [← ht.2]
    have hz : NoSign (41 :: z) := fun c hc => by simp at hc; subst hc; decide
    have e1 : eatsF [44] (41 :: z) = false := by unfold eatsF; rw [blankF_sign (by decide) (by decide) (by decide)]; rfl
    have e2 : eatF [44] (41 :: z) = 41 :: z := by unfold eatF; rw [e1, blankF_sign (by decide) (by decide) (by decide)]; rfl
    have e3 : mustF [41] (41 :: z) = .ok ((), z) := by
      have h1 : eatsF [41] (41 :: z) = true := by unfold eatsF; rw [blankF_sign (by decide) (by decide) (by decide)]; simp [List.isPrefixOf]
      unfold mustF
      rw [h1, if_pos rfl]
      unfold eatF
      rw [h1, if_pos rfl, blankF_sign (by decide) (by decide) (by decide)]
      rfl
    rw [termsF]
    show (match wordF ((t.name.data.toList ++ []) ++ 41 :: z) with | .error e => _ | .ok (w, r1) => _) = _
    rw [List.append_nil, wordF_print ht.1 hz]
    dsimp only
    rw [e1, e2, e3, e]
    rfl
  | t :: u :: ts, n + 1, acc, z, _, hn, h => by
    have ht := h t (by simp)
    have e : (⟨variableS t.name, t.name⟩ : PTerm) = t := by rw [← ht.2]
    have hz : NoSign (44 :: (namesB (u :: ts) ++ 41 :: z)) := fun c hc => by simp at hc; subst hc; decide
    have e1 : eatsF [44] (44 :: (namesB (u :: ts) ++ 41 :: z)) = true := by unfold eatsF; rw [blankF_sign (by decide) (by decide) (by decide)]; simp [List.isPrefixOf]
    have e2 : eatF [44] (44 :: (namesB (u :: ts) ++ 41 :: z)) = namesB (u :: ts) ++ 41 :: z := by unfold eatF; rw [e1, blankF_sign (by decide) (by decide) (by decide)]; rfl
    rw [termsF]
    have e0 : namesB (t :: u :: ts) ++ 41 :: z = t.name.data.toList ++ 44 :: (namesB (u :: ts) ++ 41 :: z) := by
      show (t.name.data.toList ++ 44 :: namesB (u :: ts)) ++ 41 :: z = _
      simp
    rw [e0, wordF_print ht.1 hz]
    dsimp only
    rw [e1, e2, e, if_pos rfl, termsF_print (u :: ts) n _ z (by simp) (by simp at hn ⊢; omega) (fun x hx => h x (by simp [hx]))]
    simp
theorem eatsF_idem (sign r : Bytes) : eatsF sign (blankF false r) = eatsF sign r := by unfold eatsF; rw [blankF_idem]
theorem eatF_idem (sign r : Bytes) : eatF sign (blankF false r) = eatF sign r := by unfold eatF; rw [eatsF_idem, blankF_idem]
theorem behindNot_idem (no : Bool) (r : Bytes) : behindNot no (blankF false r) = behindNot no r := by
  unfold behindNot
  rw [eatF_idem]
  cases no
  · simp [blankF_idem]
  · simp
theorem negOf_idem (no : Bool) (r : Bytes) : negOf no (blankF false r) = negOf no r := by unfold negOf; rw [eatsF_idem]
theorem atomF_idem (no : Bool) (r : Bytes) : atomF no (blankF false r) = atomF no r := by unfold atomF; rw [behindNot_idem, negOf_idem]
theorem tailF_idem (r : Bytes) : tailF (blankF false r) = tailF r := by unfold tailF; rw [eatsF_idem, eatF_idem]
theorem mustF_idem (sign r : Bytes) : mustF sign (blankF false r) = mustF sign r := by unfold mustF; rw [eatsF_idem, eatF_idem]
theorem bodyF_idem (n : Nat) (acc : List PAtom) (r : Bytes) : bodyF n acc (blankF false r) = bodyF n acc r ∨ n = 0 := by
  cases n with
  | zero => exact .inr rfl
  | succ n => left; rw [bodyF, bodyF, atomF_idem]
theorem bodyF_space (n : Nat) (acc : List PAtom) (x : Bytes) : bodyF (n + 1) acc (32 :: x) = bodyF (n + 1) acc x := by
  have hbl : blankF false (32 :: x) = blankF false x := by rw [blankF, if_neg (by decide), if_neg (by decide), if_neg (by simp)]
  rw [bodyF, bodyF, ← atomF_idem true (32 :: x), hbl, atomF_idem]
/-- An atom, written, reads as it was; what is left is what followed, perhaps without its blanks. -/
theorem atomF_print {no : Bool} {a : PAtom} {z : Bytes} (ha : AtomOk a) (hno : no = false → a.neg = false) (hz : NoSign z) (h40 : eatsF [40] z = false) : ∃ r1, atomF no (atomB a ++ z) = .ok (a, r1) ∧ blankF false r1 = blankF false z := by
  obtain ⟨neg, name, terms⟩ := a
  obtain ⟨hname, hmany, hterms⟩ := ha
  dsimp only at hname hmany hterms hno
  obtain ⟨hn1, hn2⟩ := nameL_signs (.inl hname)
  have hvar : variableS name = false := by
    unfold variableS
    cases hl : name.data.toList with
    | nil => exact absurd hl hn1
    | cons c l =>
      rw [hl] at hname
      simp only [nameL, Bool.and_eq_true, decide_eq_true_eq] at hname
      have hu : upperB c = false := by
        rcases byte_cases c with h | h | h | h | h | h | h | h | h
        all_goals first | exact h.2.2.1 | (rw [h.2.1] at hname; exact absurd hname.2.1 (by decide))
      simp [varL, hu]
  have hword : ∀ y, blankF false (name.data.toList ++ y) = name.data.toList ++ y := fun y => blankF_word hn1 hn2
  have hnot33 : ∀ y, eatsF [33] (name.data.toList ++ y) = false := fun y => by
    unfold eatsF
    rw [hword]
    cases hl : name.data.toList with
    | nil => exact absurd hl hn1
    | cons c l =>
      have := (signB_ne (hn2 c (by rw [hl]; simp))).2.2.2.2
      simp [List.isPrefixOf, Ne.symm this]
  -- what stands behind the sign
  have hfront : ∀ y, behindNot no ((if neg then [33] else []) ++ (name.data.toList ++ y)) = name.data.toList ++ y ∧ negOf no ((if neg then [33] else []) ++ (name.data.toList ++ y)) = neg := by
    intro y
    cases neg with
    | false =>
      simp only [Bool.false_eq_true, if_false, List.nil_append]
      unfold behindNot negOf
      cases no with
      | false => simp [hword]
      | true =>
        have e : eatF [33] (name.data.toList ++ y) = name.data.toList ++ y := by unfold eatF; rw [hnot33, hword]; rfl
        simp [e, hword, hnot33]
    | true =>
      cases no with
      | false => exact absurd (hno rfl) (by decide)
      | true =>
        have e1 : eatsF [33] (33 :: (name.data.toList ++ y)) = true := by unfold eatsF; rw [blankF_sign (by decide) (by decide) (by decide)]; simp [List.isPrefixOf]
        have e2 : eatF [33] (33 :: (name.data.toList ++ y)) = name.data.toList ++ y := by unfold eatF; rw [e1, blankF_sign (by decide) (by decide) (by decide)]; rfl
        unfold behindNot negOf
        simp only [if_true, List.cons_append, List.nil_append, Bool.true_and]
        rw [e2, e1, hword]
        exact ⟨rfl, rfl⟩
  unfold atomB
  cases terms with
  | nil =>
    simp only [argsB, List.append_nil, List.append_assoc]
    obtain ⟨f1, f2⟩ := hfront z
    refine ⟨eatF [40] z, ?_, ?_⟩
    · unfold atomF
      rw [f1, wordF_print (.inl hname) hz, f2]
      dsimp only
      rw [hvar, h40]
      rfl
    · unfold eatF
      rw [h40]
      simp [blankF_idem]
  | cons t ts =>
    have e0 : (if neg then [33] else []) ++ (name.data.toList ++ argsB (t :: ts)) ++ z = (if neg then [33] else []) ++ (name.data.toList ++ (40 :: (namesB (t :: ts) ++ 41 :: z))) := by
      show _ ++ (_ ++ (40 :: (namesB (t :: ts) ++ [41]))) ++ z = _
      simp
    obtain ⟨f1, f2⟩ := hfront (40 :: (namesB (t :: ts) ++ 41 :: z))
    have hz' : NoSign (40 :: (namesB (t :: ts) ++ 41 :: z)) := fun c hc => by simp at hc; subst hc; decide
    have e1 : eatsF [40] (40 :: (namesB (t :: ts) ++ 41 :: z)) = true := by unfold eatsF; rw [blankF_sign (by decide) (by decide) (by decide)]; simp [List.isPrefixOf]
    have e2 : eatF [40] (40 :: (namesB (t :: ts) ++ 41 :: z)) = namesB (t :: ts) ++ 41 :: z := by unfold eatF; rw [e1, blankF_sign (by decide) (by decide) (by decide)]; rfl
    refine ⟨z, ?_, rfl⟩
    rw [e0]
    unfold atomF
    rw [f1, wordF_print (.inl hname) hz', f2]
    dsimp only
    rw [hvar, e1, e2, if_neg (by simp), if_pos rfl, termsF_print (t :: ts) 4 [] z (by simp) hmany hterms]
    rfl
theorem bodyF_print : ∀ (l : List PAtom) (n : Nat) (acc : List PAtom) (z : Bytes), l ≠ [] → l.length ≤ n → (∀ a ∈ l, AtomOk a) → ∃ r1, bodyF n acc (bodyB l ++ 46 :: z) = .ok (acc ++ l, r1) ∧ blankF false r1 = 46 :: z
  | [], _, _, _, h, _, _ => absurd rfl h
  | a :: l, 0, _, _, _, h, _ => by simp at h
  | [a], n + 1, acc, z, _, _, h => by
    have hz : NoSign (46 :: z) := fun c hc => by simp at hc; subst hc; decide
    have hb : blankF false (46 :: z) = 46 :: z := blankF_sign (by decide) (by decide) (by decide)
    obtain ⟨r1, h1, h2⟩ := atomF_print (no := true) (z := 46 :: z) (h a (by simp)) (fun h => by cases h) hz (by unfold eatsF; rw [hb]; rfl)
    have e1 : eatsF [44] r1 = false := by unfold eatsF; rw [h2, hb]; rfl
    refine ⟨eatF [44] r1, ?_, ?_⟩
    · rw [bodyF]
      show (match atomF true ((atomB a ++ []) ++ 46 :: z) with | .error e => _ | .ok (a, r1) => _) = _
      rw [List.append_nil, h1]
      dsimp only
      rw [e1]
      rfl
    · unfold eatF
      rw [e1, h2, hb]
      simp [hb]
  | a :: b :: l, n + 1, acc, z, _, hn, h => by
    have hz : NoSign (44 :: 32 :: (bodyB (b :: l) ++ 46 :: z)) := fun c hc => by simp at hc; subst hc; decide
    have hb : blankF false (44 :: 32 :: (bodyB (b :: l) ++ 46 :: z)) = 44 :: 32 :: (bodyB (b :: l) ++ 46 :: z) := blankF_sign (by decide) (by decide) (by decide)
    obtain ⟨r1, h1, h2⟩ := atomF_print (no := true) (z := 44 :: 32 :: (bodyB (b :: l) ++ 46 :: z)) (h a (by simp)) (fun h => by cases h) hz (by unfold eatsF; rw [hb]; rfl)
    have e1 : eatsF [44] r1 = true := by unfold eatsF; rw [h2, hb]; simp [List.isPrefixOf]
    have e2 : eatF [44] r1 = 32 :: (bodyB (b :: l) ++ 46 :: z) := by unfold eatF; rw [e1, h2, hb]; rfl
    have hn' : (b :: l).length ≤ n := by simp at hn ⊢; omega
    obtain ⟨r2, g1, g2⟩ := bodyF_print (b :: l) n (acc ++ [a]) z (by simp) hn' (fun x hx => h x (by simp [hx]))
    have e3 : bodyF n (acc ++ [a]) (32 :: (bodyB (b :: l) ++ 46 :: z)) = bodyF n (acc ++ [a]) (bodyB (b :: l) ++ 46 :: z) := by
      have hbl : blankF false (32 :: (bodyB (b :: l) ++ 46 :: z)) = blankF false (bodyB (b :: l) ++ 46 :: z) := by
        rw [blankF, if_neg (by decide), if_neg (by decide), if_neg (by simp)]
      rcases bodyF_idem n (acc ++ [a]) (32 :: (bodyB (b :: l) ++ 46 :: z)) with h3 | h3
      · rcases bodyF_idem n (acc ++ [a]) (bodyB (b :: l) ++ 46 :: z) with h4 | h4
        · rw [← h3, hbl, h4]
        · rw [h4] at hn'; simp at hn'
      · rw [h3] at hn'; simp at hn'
    have e0 : bodyB (a :: b :: l) ++ 46 :: z = atomB a ++ 44 :: 32 :: (bodyB (b :: l) ++ 46 :: z) := by
      show (atomB a ++ 44 :: 32 :: bodyB (b :: l)) ++ 46 :: z = _
      simp
    refine ⟨r2, ?_, g2⟩
    rw [e0, bodyF, h1]
    dsimp only
    rw [e1, if_pos rfl, e2, e3, g1]
    simp
theorem ruleF_print {r : PRule} (h : RuleOk r) (z : Bytes) : ruleF (ruleB r ++ z) = .ok (r, 10 :: z) := by
  obtain ⟨head, body⟩ := r
  obtain ⟨h1, h2, h3, h4⟩ := h
  dsimp only at h1 h2 h3 h4
  have hb46 : ∀ y, blankF false (46 :: y) = 46 :: y := fun y => blankF_sign (by decide) (by decide) (by decide)
  have hmust : ∀ y, mustF [46] (46 :: y) = .ok ((), y) := fun y => by
    have e1 : eatsF [46] (46 :: y) = true := by unfold eatsF; rw [hb46]; simp [List.isPrefixOf]
    unfold mustF
    rw [e1, if_pos rfl]
    unfold eatF
    rw [e1, if_pos rfl, hb46]
    rfl
  unfold ruleF headF ruleB
  cases body with
  | nil =>
    have e0 : atomB head ++ (tailB [] ++ [46, 10]) ++ z = atomB head ++ 46 :: 10 :: z := by simp [tailB]
    have hz : NoSign (46 :: 10 :: z) := fun c hc => by simp at hc; subst hc; decide
    obtain ⟨r1, g1, g2⟩ := atomF_print (no := false) (z := 46 :: 10 :: z) h1 (fun _ => h2) hz (by unfold eatsF; rw [hb46]; rfl)
    have e1 : tailF r1 = .ok ([], 46 :: 10 :: z) := by
      have e2 : eatsF [58, 45] r1 = false := by unfold eatsF; rw [g2, hb46]; rfl
      unfold tailF
      rw [e2, if_neg (by simp)]
      unfold eatF
      rw [e2, g2, hb46]
      rfl
    rw [e0, g1]
    dsimp only
    rw [e1]
    dsimp only
    rw [hmust]
  | cons a l =>
    have e0 : atomB head ++ (tailB (a :: l) ++ [46, 10]) ++ z = atomB head ++ 32 :: 58 :: 45 :: 32 :: (bodyB (a :: l) ++ 46 :: 10 :: z) := by
      show atomB head ++ ((32 :: 58 :: 45 :: 32 :: bodyB (a :: l)) ++ [46, 10]) ++ z = _
      simp
    have hbl : blankF false (32 :: 58 :: 45 :: 32 :: (bodyB (a :: l) ++ 46 :: 10 :: z)) = 58 :: 45 :: 32 :: (bodyB (a :: l) ++ 46 :: 10 :: z) := by
      rw [blankF, if_neg (by decide), if_neg (by decide), if_neg (by simp)]
      exact blankF_sign (by decide) (by decide) (by decide)
    have hz : NoSign (32 :: 58 :: 45 :: 32 :: (bodyB (a :: l) ++ 46 :: 10 :: z)) := fun c hc => by simp at hc; subst hc; decide
    obtain ⟨r1, g1, g2⟩ := atomF_print (no := false) (z := 32 :: 58 :: 45 :: 32 :: (bodyB (a :: l) ++ 46 :: 10 :: z)) h1 (fun _ => h2) hz (by unfold eatsF; rw [hbl]; rfl)
    obtain ⟨r3, g3, g4⟩ := bodyF_print (a :: l) 5 [] (10 :: z) (by simp) h3 h4
    have e1 : tailF r1 = .ok (a :: l, r3) := by
      have e2 : eatsF [58, 45] r1 = true := by unfold eatsF; rw [g2, hbl]; simp [List.isPrefixOf]
      have e3 : eatF [58, 45] r1 = 32 :: (bodyB (a :: l) ++ 46 :: 10 :: z) := by unfold eatF; rw [e2, g2, hbl]; rfl
      unfold tailF
      rw [e2, if_pos rfl, e3]
      rw [bodyF_space, g3]
      rfl
    rw [e0, g1]
    dsimp only
    rw [e1]
    dsimp only
    rw [← mustF_idem, g4, hmust]
theorem ruleB_ne (r : PRule) (z : Bytes) (h : RuleOk r) : blankF false (ruleB r ++ z) = ruleB r ++ z ∧ ruleB r ++ z ≠ [] := by
  obtain ⟨hn1, hn2⟩ := nameL_signs (.inl h.head.name)
  have e : ruleB r ++ z = r.head.name.data.toList ++ (argsB r.head.terms ++ (tailB r.body ++ [46, 10]) ++ z) := by
    unfold ruleB atomB
    rw [h.so]
    simp
  rw [e]
  exact ⟨blankF_word hn1 hn2, by simp [hn1]⟩
theorem progF_print : ∀ (l : List PRule) (n : Nat) (acc : List PRule), l.length ≤ n → (∀ r ∈ l, RuleOk r) → progF n acc (progB l) = .ok (acc ++ l, []) ∧ progF n acc (10 :: progB l) = .ok (acc ++ l, [])
  | [], n, acc, _, _ => by
    have e1 : progF n acc [] = .ok (acc, []) := by cases n <;> rw [progF, if_pos (show blankF false [] = [] from rfl)]
    have e2 : progF n acc [10] = .ok (acc, []) := by cases n <;> rw [progF, if_pos (show blankF false [10] = [] from rfl)]
    exact ⟨by rw [List.append_nil]; exact e1, by rw [List.append_nil]; exact e2⟩
  | r :: l, 0, acc, h, _ => by simp at h
  | r :: l, n + 1, acc, hn, h => by
    have hr := h r (by simp)
    obtain ⟨h1, h2⟩ := ruleB_ne r (progB l) hr
    have ih := (progF_print l n (acc ++ [r]) (by simp at hn; omega) (fun x hx => h x (by simp [hx]))).2
    have main : progF (n + 1) acc (ruleB r ++ progB l) = .ok (acc ++ r :: l, []) := by
      rw [progF, h1, if_neg h2, ruleF_print hr]
      dsimp only
      rw [ih]
      simp
    refine ⟨main, ?_⟩
    have e : blankF false (10 :: progB (r :: l)) = ruleB r ++ progB l := by
      rw [blankF, if_pos rfl]
      exact h1
    rw [progF, e, if_neg h2, ruleF_print hr]
    dsimp only
    rw [ih]
    simp

theorem parseF_print {s t : Str} {p : List PRule} (hs : parseF s = (p, 0, 0)) (ht : t.data.toList = progB p) (bad : ∀ n acc r e r', progF n acc r = .error (e, r') → e ≠ 0) : parseF t = if 3000 < t.size then ([], 4, 0) else (p, 0, 0) := by
  have good : ∃ r', progF 16 [] s.data.toList = .ok (p, r') := by
    unfold parseF at hs
    split at hs
    · simp at hs
    · cases hp : progF 16 [] s.data.toList with
      | error e =>
        obtain ⟨e, r⟩ := e
        rw [hp] at hs
        simp at hs
        exact absurd hs.2.1 (bad _ _ _ _ _ hp)
      | ok x =>
        obtain ⟨l, r⟩ := x
        rw [hp] at hs
        simp at hs
        exact ⟨r, by rw [hs]⟩
  obtain ⟨r', hp⟩ := good
  obtain ⟨h1, h2⟩ := progF_ok 16 [] _ (by simp) hp
  unfold parseF
  split
  · rfl
  · rw [ht, (progF_print p 16 [] (by simpa using h1) h2).1]
    rfl
end Go.Proofs.Ytobbjapmdpkogaa
