/-
  PLAIN: one text behind the other: the rules of both.
-/
import Derived.Test.YtobbjapmdpkogaaSynP
namespace Go.Proofs.Ytobbjapmdpkogaa

theorem blankF_more (t : Bytes) : ∀ (note : Bool) (r : Bytes), blankF note (r ++ 10 :: t) = if blankF note r = [] then blankF false t else blankF note r ++ 10 :: t
  | note, [] => by simp [blankF]
  | note, c :: r => by
    rw [List.cons_append, blankF.eq_2, blankF.eq_2]
    by_cases h1 : c = 10
    · rw [if_pos h1, if_pos h1]; exact blankF_more t false r
    · rw [if_neg h1, if_neg h1]
      by_cases h2 : c = 37
      · rw [if_pos h2, if_pos h2]; exact blankF_more t true r
      · rw [if_neg h2, if_neg h2]
        by_cases h3 : c ≠ 32 ∧ note = false
        · rw [if_pos h3, if_pos h3, if_neg (by simp)]; rfl
        · rw [if_neg h3, if_neg h3]; exact blankF_more t note r
theorem blankF_join {t r : Bytes} {note : Bool} (h : blankF note r ≠ []) : blankF note (r ++ 10 :: t) = blankF note r ++ 10 :: t := by rw [blankF_more, if_neg h]
theorem prefix_more (t : Bytes) : ∀ (sign b : Bytes), (∀ c ∈ sign, c ≠ 10) → sign.isPrefixOf (b ++ 10 :: t) = sign.isPrefixOf b
  | [], b, _ => by cases b <;> rfl
  | x :: sign, [], h => by
    have hx : x ≠ 10 := h x (by simp)
    simp [List.isPrefixOf, hx]
  | x :: sign, c :: b, h => by
    rw [List.cons_append, List.isPrefixOf, List.isPrefixOf, prefix_more t sign b fun c hc => h c (by simp [hc])]
theorem eatsF_more {t sign r : Bytes} (h : ∀ c ∈ sign, c ≠ 10) (hb : blankF false r ≠ []) : eatsF sign (r ++ 10 :: t) = eatsF sign r := by
  unfold eatsF
  rw [blankF_join hb, prefix_more t sign _ h]
theorem eatF_more {t sign r : Bytes} (h : ∀ c ∈ sign, c ≠ 10) (hb : blankF false r ≠ []) : eatF sign (r ++ 10 :: t) = eatF sign r ++ 10 :: t := by
  unfold eatF
  rw [eatsF_more h hb, blankF_join hb]
  split
  · rename_i hp
    exact List.drop_append_of_le_length (List.IsPrefix.length_le (List.isPrefixOf_iff_prefix.1 hp))
  · rfl
theorem eatsF_blank {sign r : Bytes} (hs : sign ≠ []) (hb : blankF false r = []) : eatsF sign r = false := by
  unfold eatsF
  rw [hb]
  cases sign with
  | nil => exact absurd rfl hs
  | cons x s => rfl
theorem eatF_blank {sign r : Bytes} (hs : sign ≠ []) (hb : blankF false r = []) : eatF sign r = [] := by
  unfold eatF
  rw [eatsF_blank hs hb, hb]
  rfl
theorem mustF_more {t sign r r1 : Bytes} {u : Unit} (hs : sign ≠ []) (h10 : ∀ c ∈ sign, c ≠ 10) (h : mustF sign r = .ok (u, r1)) : blankF false r ≠ [] ∧ mustF sign (r ++ 10 :: t) = .ok (u, r1 ++ 10 :: t) := by
  unfold mustF at h
  by_cases he : eatsF sign r = true
  · have hb : blankF false r ≠ [] := fun e => by rw [eatsF_blank hs e] at he; cases he
    rw [if_pos he] at h
    refine ⟨hb, ?_⟩
    unfold mustF
    rw [eatsF_more h10 hb, if_pos he, eatF_more h10 hb]
    cases h; rfl
  · rw [if_neg he] at h; cases h
theorem takeWhile_more (t : Bytes) : ∀ b : Bytes, (b ++ 10 :: t).takeWhile signB = b.takeWhile signB
  | [] => by
    have h : signB 10 = false := by decide
    simp [List.takeWhile, h]
  | c :: b => by
    rw [List.cons_append, List.takeWhile, List.takeWhile, takeWhile_more t b]
theorem takeWhile_len : ∀ b : Bytes, (b.takeWhile signB).length ≤ b.length
  | [] => Nat.le_refl _
  | c :: b => by
    have := takeWhile_len b
    rw [List.takeWhile]
    split <;> simp <;> omega
theorem wordF_more {t r r1 : Bytes} {w : Str} (h : wordF r = .ok (w, r1)) : blankF false r ≠ [] ∧ wordF (r ++ 10 :: t) = .ok (w, r1 ++ 10 :: t) := by
  unfold wordF at h
  by_cases h1 : wordOf r = []
  · rw [if_pos h1] at h; cases h
  · rw [if_neg h1] at h
    have hb : blankF false r ≠ [] := fun e => h1 (by unfold wordOf; rw [e]; rfl)
    have hw : wordOf (r ++ 10 :: t) = wordOf r := by unfold wordOf; rw [blankF_join hb, takeWhile_more]
    refine ⟨hb, ?_⟩
    unfold wordF
    rw [hw, if_neg h1]
    split at h
    · cases h
    · rename_i h2
      rw [if_neg h2, blankF_join hb, List.drop_append_of_le_length (show (wordOf r).length ≤ (blankF false r).length from takeWhile_len _)]
      cases h; rfl
theorem ten44 : ∀ c ∈ ([44] : Bytes), c ≠ 10 := by decide
theorem ten41 : ∀ c ∈ ([41] : Bytes), c ≠ 10 := by decide
theorem ten40 : ∀ c ∈ ([40] : Bytes), c ≠ 10 := by decide
theorem ten33 : ∀ c ∈ ([33] : Bytes), c ≠ 10 := by decide
theorem ten46 : ∀ c ∈ ([46] : Bytes), c ≠ 10 := by decide
theorem ten58 : ∀ c ∈ ([58, 45] : Bytes), c ≠ 10 := by decide
theorem termsF_more (t : Bytes) : ∀ (n : Nat) (acc : List PTerm) (r : Bytes) {l : List PTerm} {r' : Bytes}, termsF n acc r = .ok (l, r') → blankF false r ≠ [] ∧ termsF n acc (r ++ 10 :: t) = .ok (l, r' ++ 10 :: t)
  | 0, acc, r, l, r', h => by rw [termsF] at h; cases h
  | n + 1, acc, r, l, r', h => by
    rw [termsF] at h
    cases hw : wordF r with
    | error e => rw [hw] at h; cases h
    | ok p =>
      obtain ⟨w, r1⟩ := p
      rw [hw] at h
      dsimp only at h
      obtain ⟨hb0, hw'⟩ := wordF_more (t := t) hw
      refine ⟨hb0, ?_⟩
      rw [termsF, hw']
      dsimp only
      by_cases hb : blankF false r1 = []
      · exfalso
        rw [eatsF_blank (by simp) hb, eatF_blank (by simp) hb] at h
        simp [mustF, eatsF, blankF, eatF, List.isPrefixOf] at h
      · rw [eatsF_more ten44 hb, eatF_more ten44 hb]
        by_cases hc : eatsF [44] r1 = true
        · rw [if_pos hc] at h ⊢
          exact (termsF_more t n _ _ h).2
        · rw [if_neg hc] at h ⊢
          cases hm : mustF [41] (eatF [44] r1) with
          | error e => rw [hm] at h; cases h
          | ok p =>
            obtain ⟨u, r3⟩ := p
            rw [hm] at h
            rw [(mustF_more (t := t) (by simp) ten41 hm).2]
            cases h; rfl
theorem behindNot_more {t r : Bytes} {no : Bool} (h : blankF false (behindNot no r) ≠ []) : behindNot no (r ++ 10 :: t) = behindNot no r ++ 10 :: t ∧ negOf no (r ++ 10 :: t) = negOf no r ∧ blankF false r ≠ [] := by
  unfold behindNot at h ⊢
  unfold negOf
  rw [blankF_idem] at h
  cases no with
  | false =>
    simp only [Bool.false_eq_true, if_false, Bool.false_and] at h ⊢
    first | exact ⟨blankF_join h, rfl, h⟩ | exact ⟨blankF_join h, trivial, h⟩ | exact ⟨blankF_join h, h⟩
  | true =>
    simp only [if_true, Bool.true_and] at h ⊢
    have hb : blankF false r ≠ [] := fun e => h (by rw [eatF_blank (by simp) e]; rfl)
    rw [eatF_more ten33 hb, blankF_join h, eatsF_more ten33 hb]
    first | exact ⟨rfl, rfl, hb⟩ | exact ⟨trivial, trivial, hb⟩ | exact ⟨rfl, trivial, hb⟩
theorem atomF_more {t r r' : Bytes} {no : Bool} {a : PAtom} (h : atomF no r = .ok (a, r')) (hr : blankF false r' ≠ []) : blankF false r ≠ [] ∧ atomF no (r ++ 10 :: t) = .ok (a, r' ++ 10 :: t) := by
  unfold atomF at h
  cases hw : wordF (behindNot no r) with
  | error e => rw [hw] at h; cases h
  | ok p =>
    obtain ⟨w, r2⟩ := p
    rw [hw] at h
    dsimp only at h
    obtain ⟨hb0, hw'⟩ := wordF_more (t := t) hw
    obtain ⟨e1, e2, hb1⟩ := behindNot_more (t := t) hb0
    refine ⟨hb1, ?_⟩
    unfold atomF
    rw [e1, hw', e2]
    dsimp only
    split at h
    · cases h
    · rename_i hv
      rw [if_neg hv]
      by_cases hb : blankF false r2 = []
      · exfalso
        rw [eatsF_blank (by simp) hb, eatF_blank (by simp) hb] at h
        simp at h
        obtain ⟨-, e⟩ := h
        subst e
        exact hr rfl
      · rw [eatsF_more ten40 hb, eatF_more ten40 hb]
        by_cases hc : eatsF [40] r2 = true
        · rw [if_pos hc] at h ⊢
          cases ht : termsF 4 [] (eatF [40] r2) with
          | error e => rw [ht] at h; cases h
          | ok p =>
            obtain ⟨ts, r4⟩ := p
            rw [ht] at h
            rw [(termsF_more t 4 [] _ ht).2]
            cases h; rfl
        · rw [if_neg hc] at h ⊢
          cases h; rfl
theorem bodyF_more (t : Bytes) : ∀ (n : Nat) (acc : List PAtom) (r : Bytes) {l : List PAtom} {r' : Bytes}, bodyF n acc r = .ok (l, r') → blankF false r' ≠ [] → blankF false r ≠ [] ∧ bodyF n acc (r ++ 10 :: t) = .ok (l, r' ++ 10 :: t)
  | 0, acc, r, l, r', h, _ => by rw [bodyF] at h; cases h
  | n + 1, acc, r, l, r', h, hr => by
    rw [bodyF] at h
    cases hw : atomF true r with
    | error e => rw [hw] at h; cases h
    | ok p =>
      obtain ⟨a, r1⟩ := p
      rw [hw] at h
      dsimp only at h
      by_cases hb : blankF false r1 = []
      · exfalso
        rw [eatsF_blank (by simp) hb, eatF_blank (by simp) hb] at h
        simp at h
        obtain ⟨-, e⟩ := h
        subst e
        exact hr rfl
      · obtain ⟨hb0, hw'⟩ := atomF_more (t := t) hw hb
        refine ⟨hb0, ?_⟩
        rw [bodyF, hw']
        dsimp only
        rw [eatsF_more ten44 hb, eatF_more ten44 hb]
        by_cases hc : eatsF [44] r1 = true
        · rw [if_pos hc] at h ⊢
          exact (bodyF_more t n _ _ h hr).2
        · rw [if_neg hc] at h ⊢
          cases h; rfl
theorem tailF_more {t r r' : Bytes} {l : List PAtom} (h : tailF r = .ok (l, r')) (hr : blankF false r' ≠ []) : blankF false r ≠ [] ∧ tailF (r ++ 10 :: t) = .ok (l, r' ++ 10 :: t) := by
  unfold tailF at h
  by_cases hb : blankF false r = []
  · exfalso
    rw [eatsF_blank (by simp) hb, eatF_blank (by simp) hb] at h
    simp at h
    obtain ⟨-, e⟩ := h
    subst e
    exact hr rfl
  · refine ⟨hb, ?_⟩
    unfold tailF
    rw [eatsF_more ten58 hb, eatF_more ten58 hb]
    by_cases hc : eatsF [58, 45] r = true
    · rw [if_pos hc] at h ⊢
      exact (bodyF_more t 5 [] _ h hr).2
    · rw [if_neg hc] at h ⊢
      cases h; rfl
theorem ruleF_more {t r r' : Bytes} {x : PRule} (h : ruleF r = .ok (x, r')) : blankF false r ≠ [] ∧ ruleF (r ++ 10 :: t) = .ok (x, r' ++ 10 :: t) := by
  unfold ruleF headF at h
  cases hw : atomF false r with
  | error e => rw [hw] at h; cases h
  | ok p =>
    obtain ⟨a, r1⟩ := p
    rw [hw] at h
    dsimp only at h
    cases ht : tailF r1 with
    | error e => rw [ht] at h; cases h
    | ok p =>
      obtain ⟨b, r3⟩ := p
      rw [ht] at h
      dsimp only at h
      cases hm : mustF [46] r3 with
      | error e => rw [hm] at h; cases h
      | ok p =>
        obtain ⟨u, r4⟩ := p
        rw [hm] at h
        obtain ⟨hb3, hm'⟩ := mustF_more (t := t) (by simp) ten46 hm
        obtain ⟨hb1, ht'⟩ := tailF_more (t := t) ht hb3
        obtain ⟨hb0, hw'⟩ := atomF_more (t := t) hw hb1
        refine ⟨hb0, ?_⟩
        unfold ruleF headF
        rw [hw']
        dsimp only
        rw [ht']
        dsimp only
        rw [hm']
        cases h; rfl
theorem progF_acc : ∀ (n : Nat) (acc : List PRule) (r : Bytes) {l : List PRule} {r' : Bytes}, progF n acc r = .ok (l, r') → ∃ q, l = acc ++ q ∧ q.length ≤ n ∧ r' = [] ∧ ∀ (k : Nat) (acc' : List PRule), q.length ≤ k → progF k acc' r = .ok (acc' ++ q, [])
  | 0, acc, r, l, r', h => by
    rw [progF] at h
    by_cases hb : blankF false r = []
    · rw [if_pos hb] at h
      cases h
      refine ⟨[], by simp, Nat.le_refl _, rfl, fun k acc' _ => ?_⟩
      cases k <;> rw [progF, if_pos hb] <;> simp
    · rw [if_neg hb] at h; cases h
  | n + 1, acc, r, l, r', h => by
    rw [progF] at h
    by_cases hb : blankF false r = []
    · rw [if_pos hb] at h
      cases h
      refine ⟨[], by simp, Nat.zero_le _, rfl, fun k acc' _ => ?_⟩
      cases k <;> rw [progF, if_pos hb] <;> simp
    · rw [if_neg hb] at h
      cases hw : ruleF (blankF false r) with
      | error e => rw [hw] at h; cases h
      | ok p =>
        obtain ⟨x, r1⟩ := p
        rw [hw] at h
        dsimp only at h
        obtain ⟨q, rfl, h2, h3, h4⟩ := progF_acc n _ _ h
        refine ⟨x :: q, by simp, by simp; omega, h3, fun k acc' hk => ?_⟩
        cases k with
        | zero => simp at hk
        | succ k =>
          rw [progF, if_neg hb, hw]
          dsimp only
          rw [h4 k _ (by simp at hk; omega)]
          simp
theorem progF_more (t : Bytes) : ∀ (n : Nat) (acc : List PRule) (r : Bytes) {l : List PRule} {r' : Bytes}, progF n acc r = .ok (l, r') → ∀ k, progF (n + k) acc (r ++ 10 :: t) = progF (n + k - (l.length - acc.length)) l t
  | 0, acc, r, l, r', h, k => by
    rw [progF] at h
    by_cases hb : blankF false r = []
    · rw [if_pos hb] at h
      cases h
      have e : blankF false (r ++ 10 :: t) = blankF false t := by rw [blankF_more, if_pos hb]
      rw [Nat.sub_self, Nat.sub_zero]
      cases h0 : 0 + k <;> rw [progF, progF, e]
    · rw [if_neg hb] at h; cases h
  | n + 1, acc, r, l, r', h, k => by
    rw [progF] at h
    by_cases hb : blankF false r = []
    · rw [if_pos hb] at h
      cases h
      have e : blankF false (r ++ 10 :: t) = blankF false t := by rw [blankF_more, if_pos hb]
      rw [Nat.sub_self, Nat.sub_zero]
      cases h0 : n + 1 + k <;> rw [progF, progF, e]
    · rw [if_neg hb] at h
      cases hw : ruleF (blankF false r) with
      | error e => rw [hw] at h; cases h
      | ok p =>
        obtain ⟨x, r1⟩ := p
        rw [hw] at h
        dsimp only at h
        obtain ⟨q, hl, h2, -, -⟩ := progF_acc n _ _ h
        have hl' : l.length = acc.length + 1 + q.length := by rw [hl]; simp; omega
        have h5 := progF_more t n _ _ h k
        rw [show n + 1 + k = (n + k) + 1 by omega, progF, blankF_join hb, if_neg (by simp), (ruleF_more (t := t) hw).2]
        dsimp only
        rw [h5]
        congr 1
        simp
        omega

theorem parseF_join {s t u : Str} {p q : List PRule} (hu : u.data.toList = s.data.toList ++ 10 :: t.data.toList) (hs : parseF s = (p, 0, 0)) (ht : parseF t = (q, 0, 0)) (hl : p.length + q.length ≤ 16) (hn : u.size ≤ 3000) (bad : ∀ n acc r e r', progF n acc r = .error (e, r') → e ≠ 0) : parseF u = (p ++ q, 0, 0) := by
  have good : ∀ {s : Str} {p : List PRule}, parseF s = (p, 0, 0) → progF 16 [] s.data.toList = .ok (p, []) := by
    intro s p h
    unfold parseF at h
    split at h
    · simp at h
    · cases hp : progF 16 [] s.data.toList with
      | error e =>
        obtain ⟨e, r⟩ := e
        rw [hp] at h
        simp at h
        exact absurd h.2.1 (bad _ _ _ _ _ hp)
      | ok x =>
        obtain ⟨l, r⟩ := x
        rw [hp] at h
        simp at h
        obtain ⟨q, -, -, rfl, -⟩ := progF_acc _ _ _ hp
        rw [h]
  have h1 := good hs
  have h2 := good ht
  have h3 := progF_more t.data.toList 16 [] _ h1 0
  obtain ⟨q', e1, -, -, h4⟩ := progF_acc _ _ _ h2
  rw [List.nil_append] at e1
  subst e1
  unfold parseF
  rw [if_neg (by omega), hu, show (16 : Nat) = 16 + 0 from rfl, h3, h4 _ p (by simp; omega)]
end Go.Proofs.Ytobbjapmdpkogaa
