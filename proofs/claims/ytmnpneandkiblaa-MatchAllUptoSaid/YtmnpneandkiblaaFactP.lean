/-
  PLAIN: the order of facts is a strict total order; sets of facts: rising lists; what Of, Join, Less, In come to.
-/
import Derived.Test.YtmnpneandkiblaaPure
namespace Go.Proofs.Ytmnpneandkiblaa

structure Cmp3 {α : Type} (c : α → α → Int) : Prop where
  anti : ∀ a b, c a b < 0 ↔ 0 < c b a
  zero : ∀ a b, c a b = 0 ↔ a = b
  trans : ∀ a b d, c a b < 0 → c b d < 0 → c a d < 0

theorem cmpInt3 : Cmp3 cmpInt where
  anti a b := by unfold cmpInt; split <;> split <;> (try split) <;> omega
  zero a b := by unfold cmpInt; split <;> (try split) <;> omega
  trans a b d := by unfold cmpInt; split <;> split <;> (try split) <;> (try split) <;> omega
theorem cmpStr_lt (a b : Str) : cmpStr a b < 0 ↔ strLt a b = true := by
  unfold cmpStr
  cases h : strLt a b <;> cases h2 : strLt b a <;> simp
theorem cmpStr_gt (a b : Str) : 0 < cmpStr a b ↔ strLt b a = true := by
  unfold cmpStr
  cases h : strLt a b
  · cases h2 : strLt b a <;> simp
  · simp [strLt_asymm h]
theorem cmpStr3 : Cmp3 cmpStr where
  anti a b := by rw [cmpStr_lt, cmpStr_gt]
  zero a b := by
    constructor
    · intro h
      refine strLt_tri ?_ ?_
      · cases h1 : strLt a b
        · rfl
        · have := (cmpStr_lt a b).2 h1; omega
      · cases h1 : strLt b a
        · rfl
        · have := (cmpStr_gt a b).2 h1; omega
    · rintro rfl
      simp [cmpStr, strLt_irrefl]
  trans a b d h k := (cmpStr_lt _ _).2 (strLt_trans ((cmpStr_lt _ _).1 h) ((cmpStr_lt _ _).1 k))

theorem Cmp3.self {α : Type} {c : α → α → Int} (h : Cmp3 c) (a : α) : c a a = 0 := (h.zero a a).2 rfl
theorem Cmp3.ne_zero {α : Type} {c : α → α → Int} (h : Cmp3 c) {a b : α} (hne : a ≠ b) : c a b ≠ 0 := fun e => hne ((h.zero a b).1 e)

theorem cmpStrs_cons (a b : Str) (x y : List Str) : cmpStrs (a :: x) (b :: y) = if cmpStr a b ≠ 0 then cmpStr a b else cmpStrs x y := rfl
theorem cmpStrs3 : Cmp3 cmpStrs where
  anti := by
    intro a
    induction a with
    | nil => intro b; cases b <;> simp [cmpStrs]
    | cons a x ih =>
      intro b
      cases b with
      | nil => simp [cmpStrs]
      | cons b y =>
        rw [cmpStrs_cons, cmpStrs_cons]
        by_cases h : a = b
        · subst h; simp [cmpStr3.self, ih y]
        · rw [if_pos (cmpStr3.ne_zero h), if_pos (cmpStr3.ne_zero (Ne.symm h))]; exact cmpStr3.anti a b
  zero := by
    intro a
    induction a with
    | nil => intro b; cases b <;> simp [cmpStrs]
    | cons a x ih =>
      intro b
      cases b with
      | nil => simp [cmpStrs]
      | cons b y =>
        rw [cmpStrs_cons]
        by_cases h : a = b
        · subst h; simp [cmpStr3.self, ih y]
        · rw [if_pos (cmpStr3.ne_zero h)]
          simp [h, cmpStr3.ne_zero h]
  trans := by
    intro a
    induction a with
    | nil =>
      intro b d h k
      cases d with
      | nil => cases b <;> simp [cmpStrs] at h k
      | cons d z => simp [cmpStrs]
    | cons a x ih =>
      intro b d h k
      cases b with
      | nil => simp [cmpStrs] at h
      | cons b y =>
        cases d with
        | nil => simp [cmpStrs] at k
        | cons d z =>
          rw [cmpStrs_cons] at h k ⊢
          by_cases h1 : a = b
          · subst h1
            rw [if_neg (by simp [cmpStr3.self])] at h
            by_cases h2 : a = d
            · subst h2
              rw [if_neg (by simp [cmpStr3.self])] at k ⊢
              exact ih y z h k
            · rw [if_pos (cmpStr3.ne_zero h2)] at k ⊢
              exact k
          · rw [if_pos (cmpStr3.ne_zero h1)] at h
            by_cases h2 : b = d
            · subst h2
              rw [if_pos (cmpStr3.ne_zero h1)]
              exact h
            · rw [if_pos (cmpStr3.ne_zero h2)] at k
              have h3 := cmpStr3.trans a b d h k
              rw [if_pos (by omega)]
              exact h3

theorem cmpFact_eq (f g : PFact) : cmpFact f g = if cmpStr f.name g.name ≠ 0 then cmpStr f.name g.name else if cmpInt f.args.length g.args.length ≠ 0 then cmpInt f.args.length g.args.length else if cmpStrs f.args g.args ≠ 0 then cmpStrs f.args g.args else 0 := rfl
theorem cmpFact_name {f g : PFact} (h : f.name ≠ g.name) : cmpFact f g = cmpStr f.name g.name := by
  rw [cmpFact_eq, if_pos (cmpStr3.ne_zero h)]
theorem cmpFact_len {f g : PFact} (h : f.name = g.name) (k : (f.args.length : Int) ≠ g.args.length) : cmpFact f g = cmpInt f.args.length g.args.length := by
  rw [cmpFact_eq, h, if_neg (by simp [cmpStr3.self]), if_pos (cmpInt3.ne_zero k)]
theorem cmpFact_args {f g : PFact} (h : f.name = g.name) (k : (f.args.length : Int) = g.args.length) : cmpFact f g = cmpStrs f.args g.args := by
  rw [cmpFact_eq, h, if_neg (by simp [cmpStr3.self]), k, if_neg (by simp [cmpInt3.self])]
  split
  · rfl
  · omega
theorem cmpFact3 : Cmp3 cmpFact where
  anti f g := by
    by_cases h1 : f.name = g.name
    · by_cases h2 : (f.args.length : Int) = g.args.length
      · rw [cmpFact_args h1 h2, cmpFact_args h1.symm h2.symm]; exact cmpStrs3.anti _ _
      · rw [cmpFact_len h1 h2, cmpFact_len h1.symm (Ne.symm h2)]; exact cmpInt3.anti _ _
    · rw [cmpFact_name h1, cmpFact_name (Ne.symm h1)]; exact cmpStr3.anti _ _
  zero f g := by
    by_cases h1 : f.name = g.name
    · by_cases h2 : (f.args.length : Int) = g.args.length
      · rw [cmpFact_args h1 h2, cmpStrs3.zero]
        constructor
        · intro h; cases f; cases g; simp_all
        · rintro rfl; rfl
      · rw [cmpFact_len h1 h2, cmpInt3.zero]
        constructor
        · intro h; exact absurd h h2
        · rintro rfl; rfl
    · rw [cmpFact_name h1, cmpStr3.zero]
      constructor
      · intro h; exact absurd h h1
      · rintro rfl; rfl
  trans f g d h k := by
    by_cases h1 : f.name = g.name
    · by_cases k1 : g.name = d.name
      · by_cases h2 : (f.args.length : Int) = g.args.length
        · by_cases k2 : (g.args.length : Int) = d.args.length
          · rw [cmpFact_args h1 h2] at h
            rw [cmpFact_args k1 k2] at k
            rw [cmpFact_args (h1.trans k1) (h2.trans k2)]
            exact cmpStrs3.trans _ _ _ h k
          · rw [cmpFact_len k1 k2] at k
            rw [cmpFact_len (h1.trans k1) (by rw [h2]; exact k2), h2]
            exact k
        · rw [cmpFact_len h1 h2] at h
          by_cases k2 : (g.args.length : Int) = d.args.length
          · rw [cmpFact_len (h1.trans k1) (by rw [← k2]; exact h2), ← k2]
            exact h
          · rw [cmpFact_len k1 k2] at k
            have h3 := cmpInt3.trans _ _ _ h k
            rw [cmpFact_len (h1.trans k1) (fun e => by rw [e, cmpInt3.self] at h3; omega)]
            exact h3
      · rw [cmpFact_name k1] at k
        rw [cmpFact_name (by rw [h1]; exact k1), h1]
        exact k
    · rw [cmpFact_name h1] at h
      by_cases k1 : g.name = d.name
      · rw [cmpFact_name (by rw [← k1]; exact h1), ← k1]
        exact h
      · rw [cmpFact_name k1] at k
        have h3 := cmpStr3.trans _ _ _ h k
        rw [cmpFact_name (fun e => by rw [e, cmpStr3.self] at h3; omega)]
        exact h3

/-- The first fact comes first. -/
def ltF (f g : PFact) : Bool := decide (cmpFact f g < 0)
theorem ltF_irrefl (f : PFact) : ltF f f = false := by simp [ltF, cmpFact3.self]
theorem ltF_trans {f g d : PFact} (h : ltF f g = true) (k : ltF g d = true) : ltF f d = true := by
  simp only [ltF, decide_eq_true_eq] at *; exact cmpFact3.trans _ _ _ h k
theorem ltF_asymm {f g : PFact} (h : ltF f g = true) : ltF g f = false := by
  simp only [ltF, decide_eq_true_eq, decide_eq_false_iff_not] at *; have := (cmpFact3.anti f g).1 h; omega
theorem ltF_tri {f g : PFact} (h : ltF f g = false) (k : ltF g f = false) : f = g := by
  simp only [ltF, decide_eq_false_iff_not] at *
  refine (cmpFact3.zero f g).1 ?_
  have := cmpFact3.anti g f
  omega
/-- A set: facts rise. -/
def Rising (l : List PFact) : Prop := l.Pairwise fun a b => ltF a b = true
def memF (f : PFact) : List PFact → Bool
  | [] => false
  | g :: l => decide (f = g) || memF f l
theorem memF_iff (f : PFact) : ∀ l, memF f l = true ↔ f ∈ l
  | [] => by simp [memF]
  | y :: l => by simp [memF, memF_iff f l]
/-- A fact put into a set, at its place. -/
def addF (f : PFact) : List PFact → List PFact
  | [] => [f]
  | g :: l => if ltF f g then f :: g :: l else if f = g then g :: l else g :: addF f l
/-- Facts as a set. -/
def ofF (l : List PFact) : List PFact := l.foldr addF []
theorem mem_addF (f x : PFact) : ∀ l, x ∈ addF f l ↔ x = f ∨ x ∈ l
  | [] => by simp [addF]
  | g :: l => by
    unfold addF
    by_cases h : ltF f g = true
    · simp [h]
    · rw [if_neg h]
      by_cases e : f = g
      · subst e; simp
      · rw [if_neg e]; simp only [List.mem_cons, mem_addF f x l]
        constructor
        · rintro (h | h | h) <;> simp [h]
        · rintro (h | h | h) <;> simp [h]
theorem addF_rising (f : PFact) : ∀ l, Rising l → Rising (addF f l)
  | [], _ => by simp [addF, Rising]
  | g :: l, h => by
    have hg := (List.pairwise_cons.1 h)
    unfold addF
    by_cases hl : ltF f g = true
    · rw [if_pos hl]
      refine List.pairwise_cons.2 ⟨fun x hx => ?_, h⟩
      rcases List.mem_cons.1 hx with rfl | hx
      · exact hl
      · exact ltF_trans hl (hg.1 x hx)
    · rw [if_neg hl]
      by_cases e : f = g
      · rw [if_pos e]; exact h
      · rw [if_neg e]
        refine List.pairwise_cons.2 ⟨fun x hx => ?_, addF_rising f l hg.2⟩
        rcases (mem_addF f x l).1 hx with rfl | hx
        · cases hgf : ltF g x
          · exact absurd (ltF_tri (by simpa using hl) hgf) e
          · rfl
        · exact hg.1 x hx
theorem ofF_rising (l : List PFact) : Rising (ofF l) := by
  induction l with
  | nil => exact List.Pairwise.nil
  | cons f l ih => exact addF_rising f _ ih
theorem mem_ofF (x : PFact) (l : List PFact) : x ∈ ofF l ↔ x ∈ l := by
  induction l with
  | nil => simp [ofF]
  | cons f l ih =>
    show x ∈ addF f (ofF l) ↔ _
    rw [mem_addF, ih, List.mem_cons]
/-- Two rising lists of the same facts are one. -/
theorem rising_ext : ∀ {a b : List PFact}, Rising a → Rising b → (∀ x, x ∈ a ↔ x ∈ b) → a = b
  | [], [], _, _, _ => rfl
  | [], y :: b, _, _, h => by have := (h y).2 (by simp); simp at this
  | x :: a, [], _, _, h => by have := (h x).1 (by simp); simp at this
  | x :: a, y :: b, ha, hb, h => by
    have ha' := List.pairwise_cons.1 ha
    have hb' := List.pairwise_cons.1 hb
    have e : x = y := by
      rcases List.mem_cons.1 ((h x).1 (by simp)) with e | hx
      · exact e
      · rcases List.mem_cons.1 ((h y).2 (by simp)) with e | hy
        · exact e.symm
        · have h1 := hb'.1 x hx
          have h2 := ha'.1 y hy
          rw [ltF_asymm h1] at h2; cases h2
    subst e
    congr 1
    refine rising_ext ha'.2 hb'.2 fun z => ?_
    constructor
    · intro hz
      rcases List.mem_cons.1 ((h z).1 (by simp [hz])) with rfl | hz'
      · have := ha'.1 z hz; rw [ltF_irrefl] at this; cases this
      · exact hz'
    · intro hz
      rcases List.mem_cons.1 ((h z).2 (by simp [hz])) with rfl | hz'
      · have := hb'.1 z hz; rw [ltF_irrefl] at this; cases this
      · exact hz'
theorem ofF_of_rising {l : List PFact} (h : Rising l) : ofF l = l := rising_ext (ofF_rising l) h fun x => mem_ofF x l
/-- fact.Join, fact.Less. -/
def joinF (a b : List PFact) : List PFact := ofF (a ++ b)
def lessF (a b : List PFact) : List PFact := a.filter fun f => !memF f b
end Go.Proofs.Ytmnpneandkiblaa
