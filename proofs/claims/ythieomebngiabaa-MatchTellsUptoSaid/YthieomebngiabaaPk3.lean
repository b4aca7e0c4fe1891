/-
  THE TEXTS FactP, MatchP, MatchQ, Cmp, In, one behind the other.
-/
import Derived.Test.YthieomebngiabaaPk1
import Derived.Test.YthieomebngiabaaPk2
import Derived.Deep.QuietTactic
import Derived.BigQuiet
namespace Go.Proofs.Ythieomebngiabaa
structure Cmp3 {α : Type} (c : α → α → Int) : Prop where
  anti : ∀ a b, c a b < 0 ↔ 0 < c b a
  zero : ∀ a b, c a b = 0 ↔ a = b
  trans : ∀ a b d, c a b < 0 → c b d < 0 → c a d < 0
theorem cmpInt3 : Cmp3 cmpInt where
  anti a b := by unfold cmpInt; split <;> split <;> (try split) <;> omega
  zero a b := by unfold cmpInt; split <;> (try split) <;> omega
  trans a b d := by unfold cmpInt; split <;> split <;> (try split) <;> (try split) <;> omega
theorem cmpStr_lt (a b : Str) : cmpStr a b < 0 ↔ strLt a b = true := by
  unfold cmpStr
  cases h : strLt a b <;> cases h2 : strLt b a <;> simp
theorem cmpStr_gt (a b : Str) : 0 < cmpStr a b ↔ strLt b a = true := by
  unfold cmpStr
  cases h : strLt a b
  · cases h2 : strLt b a <;> simp
  · simp [strLt_asymm h]
theorem cmpStr3 : Cmp3 cmpStr where
  anti a b := by rw [cmpStr_lt, cmpStr_gt]
  zero a b := by
    constructor
    · intro h
      refine strLt_tri ?_ ?_
      · cases h1 : strLt a b
        · rfl
        · have := (cmpStr_lt a b).2 h1; omega
      · cases h1 : strLt b a
        · rfl
        · have := (cmpStr_gt a b).2 h1; omega
    · rintro rfl
      simp [cmpStr, strLt_irrefl]
  trans a b d h k := (cmpStr_lt _ _).2 (strLt_trans ((cmpStr_lt _ _).1 h) ((cmpStr_lt _ _).1 k))
theorem Cmp3.self {α : Type} {c : α → α → Int} (h : Cmp3 c) (a : α) : c a a = 0 := (h.zero a a).2 rfl
theorem Cmp3.ne_zero {α : Type} {c : α → α → Int} (h : Cmp3 c) {a b : α} (hne : a ≠ b) : c a b ≠ 0 := fun e => hne ((h.zero a b).1 e)
theorem cmpStrs_cons (a b : Str) (x y : List Str) : cmpStrs (a :: x) (b :: y) = if cmpStr a b ≠ 0 then cmpStr a b else cmpStrs x y := rfl
theorem cmpStrs3 : Cmp3 cmpStrs where
  anti := by
    intro a
    induction a with
    | nil => intro b; cases b <;> simp [cmpStrs]
    | cons a x ih =>
      intro b
      cases b with
      | nil => simp [cmpStrs]
      | cons b y =>
        rw [cmpStrs_cons, cmpStrs_cons]
        by_cases h : a = b
        · subst h; simp [cmpStr3.self, ih y]
        · rw [if_pos (cmpStr3.ne_zero h), if_pos (cmpStr3.ne_zero (Ne.symm h))]; exact cmpStr3.anti a b
  zero := by
    intro a
    induction a with
    | nil => intro b; cases b <;> simp [cmpStrs]
    | cons a x ih =>
      intro b
      cases b with
      | nil => simp [cmpStrs]
      | cons b y =>
        rw [cmpStrs_cons]
        by_cases h : a = b
        · subst h; simp [cmpStr3.self, ih y]
        · rw [if_pos (cmpStr3.ne_zero h)]
          simp [h, cmpStr3.ne_zero h]
  trans := by
    intro a
    induction a with
    | nil =>
      intro b d h k
      cases d with
      | nil => cases b <;> simp [cmpStrs] at h k
      | cons d z => simp [cmpStrs]
    | cons a x ih =>
      intro b d h k
      cases b with
      | nil => simp [cmpStrs] at h
      | cons b y =>
        cases d with
        | nil => simp [cmpStrs] at k
        | cons d z =>
          rw [cmpStrs_cons] at h k ⊢
          by_cases h1 : a = b
          · subst h1
            rw [if_neg (by simp [cmpStr3.self])] at h
            by_cases h2 : a = d
            · subst h2
              rw [if_neg (by simp [cmpStr3.self])] at k ⊢
              exact ih y z h k
            · rw [if_pos (cmpStr3.ne_zero h2)] at k ⊢
              exact k
          · rw [if_pos (cmpStr3.ne_zero h1)] at h
            by_cases h2 : b = d
            · subst h2
              rw [if_pos (cmpStr3.ne_zero h1)]
              exact h
            · rw [if_pos (cmpStr3.ne_zero h2)] at k
              have h3 := cmpStr3.trans a b d h k
              rw [if_pos (by omega)]
              exact h3
theorem cmpFact_eq (f g : PFact) : cmpFact f g = if cmpStr f.name g.name ≠ 0 then cmpStr f.name g.name else if cmpInt f.args.length g.args.length ≠ 0 then cmpInt f.args.length g.args.length else if cmpStrs f.args g.args ≠ 0 then cmpStrs f.args g.args else 0 := rfl
theorem cmpFact_name {f g : PFact} (h : f.name ≠ g.name) : cmpFact f g = cmpStr f.name g.name := by
  rw [cmpFact_eq, if_pos (cmpStr3.ne_zero h)]
theorem cmpFact_len {f g : PFact} (h : f.name = g.name) (k : (f.args.length : Int) ≠ g.args.length) : cmpFact f g = cmpInt f.args.length g.args.length := by
  rw [cmpFact_eq, h, if_neg (by simp [cmpStr3.self]), if_pos (cmpInt3.ne_zero k)]
theorem cmpFact_args {f g : PFact} (h : f.name = g.name) (k : (f.args.length : Int) = g.args.length) : cmpFact f g = cmpStrs f.args g.args := by
  rw [cmpFact_eq, h, if_neg (by simp [cmpStr3.self]), k, if_neg (by simp [cmpInt3.self])]
  split
  · rfl
  · omega
theorem cmpFact3 : Cmp3 cmpFact where
  anti f g := by
    by_cases h1 : f.name = g.name
    · by_cases h2 : (f.args.length : Int) = g.args.length
      · rw [cmpFact_args h1 h2, cmpFact_args h1.symm h2.symm]; exact cmpStrs3.anti _ _
      · rw [cmpFact_len h1 h2, cmpFact_len h1.symm (Ne.symm h2)]; exact cmpInt3.anti _ _
    · rw [cmpFact_name h1, cmpFact_name (Ne.symm h1)]; exact cmpStr3.anti _ _
  zero f g := by
    by_cases h1 : f.name = g.name
    · by_cases h2 : (f.args.length : Int) = g.args.length
      · rw [cmpFact_args h1 h2, cmpStrs3.zero]
        constructor
        · intro h; cases f; cases g; simp_all
        · rintro rfl; rfl
      · rw [cmpFact_len h1 h2, cmpInt3.zero]
        constructor
        · intro h; exact absurd h h2
        · rintro rfl; rfl
    · rw [cmpFact_name h1, cmpStr3.zero]
      constructor
      · intro h; exact absurd h h1
      · rintro rfl; rfl
  trans f g d h k := by
    by_cases h1 : f.name = g.name
    · by_cases k1 : g.name = d.name
      · by_cases h2 : (f.args.length : Int) = g.args.length
        · by_cases k2 : (g.args.length : Int) = d.args.length
          · rw [cmpFact_args h1 h2] at h
            rw [cmpFact_args k1 k2] at k
            rw [cmpFact_args (h1.trans k1) (h2.trans k2)]
            exact cmpStrs3.trans _ _ _ h k
          · rw [cmpFact_len k1 k2] at k
            rw [cmpFact_len (h1.trans k1) (by rw [h2]; exact k2), h2]
            exact k
        · rw [cmpFact_len h1 h2] at h
          by_cases k2 : (g.args.length : Int) = d.args.length
          · rw [cmpFact_len (h1.trans k1) (by rw [← k2]; exact h2), ← k2]
            exact h
          · rw [cmpFact_len k1 k2] at k
            have h3 := cmpInt3.trans _ _ _ h k
            rw [cmpFact_len (h1.trans k1) (fun e => by rw [e, cmpInt3.self] at h3; omega)]
            exact h3
      · rw [cmpFact_name k1] at k
        rw [cmpFact_name (by rw [h1]; exact k1), h1]
        exact k
    · rw [cmpFact_name h1] at h
      by_cases k1 : g.name = d.name
      · rw [cmpFact_name (by rw [← k1]; exact h1), ← k1]
        exact h
      · rw [cmpFact_name k1] at k
        have h3 := cmpStr3.trans _ _ _ h k
        rw [cmpFact_name (fun e => by rw [e, cmpStr3.self] at h3; omega)]
        exact h3
def ltF (f g : PFact) : Bool := decide (cmpFact f g < 0)
theorem ltF_irrefl (f : PFact) : ltF f f = false := by simp [ltF, cmpFact3.self]
theorem ltF_tri {f g : PFact} (h : ltF f g = false) (k : ltF g f = false) : f = g := by
  simp only [ltF, decide_eq_false_iff_not] at *
  refine (cmpFact3.zero f g).1 ?_
  have := cmpFact3.anti g f
  omega
def Rising (l : List PFact) : Prop := l.Pairwise fun a b => ltF a b = true
def memF (f : PFact) : List PFact → Bool
  | [] => false
  | g :: l => decide (f = g) || memF f l
theorem memF_iff (f : PFact) : ∀ l, memF f l = true ↔ f ∈ l
  | [] => by simp [memF]
  | y :: l => by simp [memF, memF_iff f l]
end Go.Proofs.Ythieomebngiabaa
namespace Go.Proofs.Ythieomebngiabaa
section
variable {α : Type} (c : α → α → Int)
def ltC (a b : α) : Bool := decide (c a b < 0)
def RisingC (l : List α) : Prop := l.Pairwise fun a b => ltC c a b = true
def addC [DecidableEq α] (f : α) : List α → List α
  | [] => [f]
  | g :: l => if ltC c f g then f :: g :: l else if f = g then g :: l else g :: addC f l
def ofC [DecidableEq α] (l : List α) : List α := l.foldr (addC c) []
def cmpLst : List α → List α → Int
  | [], [] => 0
  | [], _ :: _ => -1
  | _ :: _, [] => 1
  | a :: x, b :: y => if c a b ≠ 0 then c a b else cmpLst x y
end
section
variable {α : Type} {c : α → α → Int} (h3 : Cmp3 c)
include h3
theorem ltC_irrefl (f : α) : ltC c f f = false := by simp [ltC, h3.self]
theorem ltC_trans {f g d : α} (h : ltC c f g = true) (k : ltC c g d = true) : ltC c f d = true := by
  simp only [ltC, decide_eq_true_eq] at *; exact h3.trans _ _ _ h k
theorem ltC_asymm {f g : α} (h : ltC c f g = true) : ltC c g f = false := by
  simp only [ltC, decide_eq_true_eq, decide_eq_false_iff_not] at *; have := (h3.anti f g).1 h; omega
theorem ltC_tri {f g : α} (h : ltC c f g = false) (k : ltC c g f = false) : f = g := by
  simp only [ltC, decide_eq_false_iff_not] at *
  refine (h3.zero f g).1 ?_
  have := h3.anti g f
  omega
theorem addC_rising [DecidableEq α] (f : α) : ∀ l, RisingC c l → RisingC c (addC c f l) ∧ ∀ x, x ∈ addC c f l ↔ x = f ∨ x ∈ l
  | [], _ => by simp [addC, RisingC]
  | g :: l, h => by
    have hg := (List.pairwise_cons.1 h)
    unfold addC
    by_cases hl : ltC c f g = true
    · rw [if_pos hl]
      refine ⟨List.pairwise_cons.2 ⟨fun x hx => ?_, h⟩, by simp⟩
      rcases List.mem_cons.1 hx with rfl | hx
      · exact hl
      · exact ltC_trans h3 hl (hg.1 x hx)
    · rw [if_neg hl]
      by_cases e : f = g
      · rw [if_pos e]; subst e; exact ⟨h, by simp⟩
      · rw [if_neg e]
        obtain ⟨ih, im⟩ := addC_rising f l hg.2
        refine ⟨List.pairwise_cons.2 ⟨fun x hx => ?_, ih⟩, fun x => ?_⟩
        · rcases (im x).1 hx with rfl | hx
          · cases hgf : ltC c g x
            · exact absurd (ltC_tri h3 (by simpa using hl) hgf) e
            · rfl
          · exact hg.1 x hx
        · simp only [List.mem_cons, im]
          constructor
          · rintro (h | h | h) <;> simp [h]
          · rintro (h | h | h) <;> simp [h]
theorem ofC_rising [DecidableEq α] (l : List α) : RisingC c (ofC c l) := by
  induction l with
  | nil => exact List.Pairwise.nil
  | cons f l ih => exact (addC_rising h3 f _ ih).1
theorem mem_ofC [DecidableEq α] (x : α) (l : List α) : x ∈ ofC c l ↔ x ∈ l := by
  induction l with
  | nil => simp [ofC]
  | cons f l ih =>
    show x ∈ addC c f (ofC c l) ↔ _
    rw [(addC_rising h3 f _ (ofC_rising h3 l)).2, ih, List.mem_cons]
theorem risingC_ext : ∀ {a b : List α}, RisingC c a → RisingC c b → (∀ x, x ∈ a ↔ x ∈ b) → a = b
  | [], [], _, _, _ => rfl
  | [], y :: b, _, _, h => by have := (h y).2 (by simp); simp at this
  | x :: a, [], _, _, h => by have := (h x).1 (by simp); simp at this
  | x :: a, y :: b, ha, hb, h => by
    have ha' := List.pairwise_cons.1 ha
    have hb' := List.pairwise_cons.1 hb
    have e : x = y := by
      rcases List.mem_cons.1 ((h x).1 (by simp)) with e | hx
      · exact e
      · rcases List.mem_cons.1 ((h y).2 (by simp)) with e | hy
        · exact e.symm
        · have h1 := hb'.1 x hx
          have h2 := ha'.1 y hy
          rw [ltC_asymm h3 h1] at h2; cases h2
    subst e
    congr 1
    refine risingC_ext ha'.2 hb'.2 fun z => ?_
    constructor
    · intro hz
      rcases List.mem_cons.1 ((h z).1 (by simp [hz])) with rfl | hz'
      · have := ha'.1 z hz; rw [ltC_irrefl h3] at this; cases this
      · exact hz'
    · intro hz
      rcases List.mem_cons.1 ((h z).2 (by simp [hz])) with rfl | hz'
      · have := hb'.1 z hz; rw [ltC_irrefl h3] at this; cases this
      · exact hz'
theorem rising_of_sorted {l : List α} (hs : l.Pairwise fun a b => ¬ c b a < 0) (hn : l.Nodup) : RisingC c l :=
  (hs.and hn).imp fun {a b} ⟨h1, h2⟩ => by
    simp only [ltC, decide_eq_true_eq]
    have h4 := h3.ne_zero h2
    have := (h3.anti b a).2
    have := h3.anti a b
    omega
theorem cmpLst3 : Cmp3 (cmpLst c) where
  anti := by
    intro a
    induction a with
    | nil => intro b; cases b <;> simp [cmpLst]
    | cons a x ih =>
      intro b
      cases b with
      | nil => simp [cmpLst]
      | cons b y =>
        rw [cmpLst, cmpLst]
        by_cases h : a = b
        · subst h; simp [h3.self, ih y]
        · rw [if_pos (h3.ne_zero h), if_pos (h3.ne_zero (Ne.symm h))]; exact h3.anti a b
  zero := by
    intro a
    induction a with
    | nil => intro b; cases b <;> simp [cmpLst]
    | cons a x ih =>
      intro b
      cases b with
      | nil => simp [cmpLst]
      | cons b y =>
        rw [cmpLst]
        by_cases h : a = b
        · subst h; simp [h3.self, ih y]
        · rw [if_pos (h3.ne_zero h)]
          simp [h, h3.ne_zero h]
  trans := by
    intro a
    induction a with
    | nil =>
      intro b d h k
      cases d with
      | nil => cases b <;> simp [cmpLst] at h k
      | cons d z => simp [cmpLst]
    | cons a x ih =>
      intro b d h k
      cases b with
      | nil => simp [cmpLst] at h
      | cons b y =>
        cases d with
        | nil => simp [cmpLst] at k
        | cons d z =>
          rw [cmpLst] at h k ⊢
          by_cases h1 : a = b
          · subst h1
            rw [if_neg (by simp [h3.self])] at h
            by_cases h2 : a = d
            · subst h2
              rw [if_neg (by simp [h3.self])] at k ⊢
              exact ih y z h k
            · rw [if_pos (h3.ne_zero h2)] at k ⊢
              exact k
          · rw [if_pos (h3.ne_zero h1)] at h
            by_cases h2 : b = d
            · subst h2
              rw [if_pos (h3.ne_zero h1)]
              exact h
            · rw [if_pos (h3.ne_zero h2)] at k
              have h4 := h3.trans a b d h k
              rw [if_pos (by omega)]
              exact h4
end
def cmpBind (a b : PBind) : Int := orInt [cmpStr a.var b.var, cmpStr a.name b.name]
theorem cmpBind_eq (a b : PBind) : cmpBind a b = if cmpStr a.var b.var ≠ 0 then cmpStr a.var b.var else cmpStr a.name b.name := by
  unfold cmpBind
  simp only [orInt]
  split
  · rfl
  · split
    · rfl
    · rename_i h; simp at h; exact h.symm
theorem cmpBind3 : Cmp3 cmpBind where
  anti a b := by
    rw [cmpBind_eq, cmpBind_eq]
    by_cases h : a.var = b.var
    · rw [h, if_neg (by simp [cmpStr3.self]), if_neg (by simp [cmpStr3.self])]; exact cmpStr3.anti _ _
    · rw [if_pos (cmpStr3.ne_zero h), if_pos (cmpStr3.ne_zero (Ne.symm h))]; exact cmpStr3.anti _ _
  zero a b := by
    rw [cmpBind_eq]
    obtain ⟨av, an⟩ := a
    obtain ⟨bv, bn⟩ := b
    by_cases h : av = bv
    · subst h; simp [cmpStr3.self, cmpStr3.zero]
    · rw [if_pos (cmpStr3.ne_zero h)]; simp [h, cmpStr3.ne_zero h]
  trans a b d h k := by
    rw [cmpBind_eq] at *
    by_cases h1 : a.var = b.var
    · rw [h1, if_neg (by simp [cmpStr3.self])] at h
      rw [h1]
      by_cases h2 : b.var = d.var
      · rw [h2, if_neg (by simp [cmpStr3.self])] at k ⊢
        exact cmpStr3.trans _ _ _ h k
      · rw [if_pos (cmpStr3.ne_zero h2)] at k ⊢
        exact k
    · rw [if_pos (cmpStr3.ne_zero h1)] at h
      by_cases h2 : b.var = d.var
      · rw [← h2, if_pos (cmpStr3.ne_zero h1)]; exact h
      · rw [if_pos (cmpStr3.ne_zero h2)] at k
        have h4 := cmpStr3.trans _ _ _ h k
        rw [if_pos (by omega)]; exact h4
abbrev Binds := List PBind
def cmpBinds : Binds → Binds → Int := cmpLst cmpBind
theorem cmpBinds3 : Cmp3 cmpBinds := cmpLst3 cmpBind3
def getB (v : Str) : Binds → Option Str
  | [] => none
  | b :: l => if b.var = v then some b.name else getB v l
def valT (l : Binds) (t : PTerm) : Option Str := if t.var then getB t.name l else some t.name
def fillArgs (l : Binds) : List PTerm → Option (List Str)
  | [] => some []
  | t :: ts => match valT l t with
    | none => none
    | some n => (fillArgs l ts).map (n :: ·)
def fillP (a : PAtom) (l : Binds) : Option PFact := (fillArgs l a.terms).map fun x => ⟨a.name, x⟩
def meetL : Binds → List PTerm → List Str → Option Binds
  | l, [], _ => some l
  | _, _ :: _, [] => none
  | l, t :: ts, n :: ns => match valT l t with
    | none => meetL (l ++ [⟨t.name, n⟩]) ts ns
    | some m => if m = n then meetL l ts ns else none
def meetP (a : PAtom) (f : PFact) (l : Binds) : Option Binds := if a.name = f.name ∧ a.terms.length = f.args.length then meetL l a.terms f.args else none
def stepP (ls : List Binds) (a : PAtom) (fs : List PFact) : List Binds := ls.flatMap fun l => fs.filterMap fun f => meetP a f l
def goP (pick : Nat → List PFact) : Nat → List Binds → List PAtom → Option (List Binds)
  | _, ls, [] => some ls
  | i, ls, a :: b => if a.neg then goP pick (i + 1) ls b else if 20000 < (stepP ls a (pick i)).length then none else goP pick (i + 1) (stepP ls a (pick i)) b
def hitP (a : PAtom) (fs : List PFact) (l : Binds) : Bool := match fillP a l with
  | none => false
  | some f => memF f fs
def notP (pick : Nat → List PFact) : Nat → List Binds → List PAtom → List Binds
  | _, ls, [] => ls
  | i, ls, a :: b => notP pick (i + 1) (if a.neg then ls.filter (fun l => !hitP a (pick i) l) else ls) b
def tidyP (ls : List Binds) : List Binds := ofC cmpBinds (ls.map (ofC cmpBind))
def Vs (l : Binds) : List Str := l.map (·.var)
def Nd (l : Binds) : Prop := (Vs l).Nodup
theorem getB_none {v : Str} : ∀ {l : Binds}, getB v l = none ↔ v ∉ Vs l
  | [] => by simp [getB, Vs]
  | b :: l => by
    have ih := getB_none (v := v) (l := l)
    unfold getB
    by_cases h : b.var = v
    · simp [h, Vs]
    · rw [if_neg h, ih]
      simp [Vs, Ne.symm h]
theorem getB_mem {v n : Str} : ∀ {l : Binds}, getB v l = some n → ⟨v, n⟩ ∈ l
  | [], h => by simp [getB] at h
  | b :: l, h => by
    unfold getB at h
    by_cases hv : b.var = v
    · rw [if_pos hv] at h
      obtain ⟨bv, bn⟩ := b
      simp only [Option.some.injEq] at h hv
      subst h; subst hv; simp
    · rw [if_neg hv] at h
      exact List.mem_cons_of_mem _ (getB_mem h)
theorem getB_of_mem {v n : Str} : ∀ {l : Binds}, Nd l → ⟨v, n⟩ ∈ l → getB v l = some n
  | [], _, h => by simp at h
  | b :: l, hn, h => by
    have hn' : (b.var :: Vs l).Nodup := hn
    rw [List.nodup_cons] at hn'
    unfold getB
    rcases List.mem_cons.1 h with rfl | h
    · simp
    · have : b.var ≠ v := fun e => hn'.1 (by rw [e]; exact List.mem_map.2 ⟨_, h, rfl⟩)
      rw [if_neg this]
      exact getB_of_mem hn'.2 h
theorem getB_append {v : Str} {m : Binds} : ∀ {l : Binds}, getB v (l ++ m) = (getB v l).or (getB v m)
  | [] => by simp [getB]
  | b :: l => by
    rw [List.cons_append, getB, getB]
    by_cases h : b.var = v
    · simp [h]
    · rw [if_neg h, if_neg h]; exact getB_append
def SubB (l e : Binds) : Prop := ∀ v n, getB v l = some n → getB v e = some n
theorem SubB.append {l m : Binds} : SubB l (l ++ m) := fun v n h => by rw [getB_append, h]; rfl
theorem SubB.trans {l m e : Binds} (h : SubB l m) (k : SubB m e) : SubB l e := fun v n hv => k v n (h v n hv)
theorem SubB.valT {l e : Binds} (h : SubB l e) {t : PTerm} {n : Str} (hv : valT l t = some n) : valT e t = some n := by
  unfold Go.Proofs.Ythieomebngiabaa.valT at *
  cases ht : t.var
  · simpa [ht] using hv
  · rw [ht] at hv; simp only [if_true] at hv ⊢; exact h _ _ hv
theorem SubB.fillArgs {l e : Binds} (h : SubB l e) : ∀ {ts : List PTerm} {ns : List Str}, fillArgs l ts = some ns → fillArgs e ts = some ns
  | [], ns, hv => hv
  | t :: ts, ns, hv => by
    unfold Go.Proofs.Ythieomebngiabaa.fillArgs at hv ⊢
    cases ht : Go.Proofs.Ythieomebngiabaa.valT l t with
    | none => rw [ht] at hv; cases hv
    | some n =>
      rw [ht] at hv
      rw [h.valT ht]
      dsimp only at hv ⊢
      cases hr : Go.Proofs.Ythieomebngiabaa.fillArgs l ts with
      | none => rw [hr] at hv; cases hv
      | some r => rw [hr] at hv; rw [h.fillArgs hr]; exact hv
theorem SubB.fillP {l e : Binds} (h : SubB l e) {a : PAtom} {f : PFact} (hf : fillP a l = some f) : fillP a e = some f := by
  unfold Go.Proofs.Ythieomebngiabaa.fillP at *
  cases hr : Go.Proofs.Ythieomebngiabaa.fillArgs l a.terms with
  | none => rw [hr] at hf; cases hf
  | some r => rw [hr] at hf; rw [h.fillArgs hr]; exact hf
theorem fillP_name {a : PAtom} {f : PFact} {l : Binds} (h : fillP a l = some f) : a.name = f.name ∧ fillArgs l a.terms = some f.args := by
  unfold fillP at h
  cases hr : fillArgs l a.terms with
  | none => rw [hr] at h; cases h
  | some r => rw [hr] at h; obtain rfl := Option.some.inj h; exact ⟨rfl, rfl⟩
theorem fillArgs_len {l : Binds} : ∀ {ts : List PTerm} {ns : List Str}, fillArgs l ts = some ns → ts.length = ns.length
  | [], ns, h => by obtain rfl := Option.some.inj h; rfl
  | t :: ts, ns, h => by
    unfold fillArgs at h
    cases hv : valT l t with
    | none => rw [hv] at h; cases h
    | some n =>
      rw [hv] at h
      dsimp only at h
      cases hr : fillArgs l ts with
      | none => rw [hr] at h; cases h
      | some r =>
        rw [hr] at h
        obtain rfl := Option.some.inj h
        simp [fillArgs_len hr]
theorem fillArgs_some {l : Binds} : ∀ {ts : List PTerm}, (∀ t ∈ ts, t.var = true → t.name ∈ Vs l) → ∃ ns, fillArgs l ts = some ns
  | [], _ => ⟨[], rfl⟩
  | t :: ts, h => by
    obtain ⟨ns, hns⟩ := fillArgs_some (ts := ts) fun u hu => h u (by simp [hu])
    have : ∃ n, valT l t = some n := by
      unfold valT
      cases ht : t.var
      · exact ⟨t.name, by simp⟩
      · have := h t (by simp) ht
        cases hg : getB t.name l with
        | none => exact absurd this (getB_none.1 hg)
        | some n => exact ⟨n, by simp⟩
    obtain ⟨n, hn⟩ := this
    exact ⟨n :: ns, by unfold fillArgs; rw [hn, hns]; rfl⟩
theorem nd_snoc {l : Binds} (h : Nd l) {v n : Str} (hv : v ∉ Vs l) : Nd (l ++ [⟨v, n⟩]) := by
  show (Vs (l ++ [⟨v, n⟩])).Nodup
  unfold Vs
  rw [List.map_append]
  refine List.nodup_append.2 ⟨h, by simp, ?_⟩
  intro a ha b hb e
  simp only [List.map_cons, List.map_nil, List.mem_singleton] at hb
  subst hb; subst e
  exact hv ha
theorem meetL_spec : ∀ (ts : List PTerm) (ns : List Str) (l m : Binds), ts.length = ns.length → Nd l → meetL l ts ns = some m →
    Nd m ∧ SubB l m ∧ fillArgs m ts = some ns ∧ ∀ v, v ∈ Vs m ↔ v ∈ Vs l ∨ ∃ t ∈ ts, t.var = true ∧ t.name = v
  | [], ns, l, m, hl, hn, h => by
    obtain rfl : l = m := Option.some.inj h
    obtain rfl : ns = [] := List.length_eq_zero_iff.1 hl.symm
    exact ⟨hn, fun v n h => h, rfl, by simp⟩
  | t :: ts, [], l, m, hl, hn, h => by simp at hl
  | t :: ts, n :: ns, l, m, hl, hn, h => by
    have hl' : ts.length = ns.length := by simpa using hl
    unfold meetL at h
    cases hv : valT l t with
    | none =>
      rw [hv] at h
      dsimp only at h
      have htv : t.var = true := by unfold valT at hv; cases ht : t.var <;> simp [ht] at hv ⊢
      have hnew : t.name ∉ Vs l := by unfold valT at hv; rw [if_pos htv] at hv; exact getB_none.1 hv
      obtain ⟨h1, h2, h4, h5⟩ := meetL_spec ts ns _ m hl' (nd_snoc hn hnew) h
      have hval : valT m t = some n := by
        unfold valT
        rw [if_pos htv]
        exact h2 _ _ (getB_of_mem (nd_snoc hn hnew) (by simp))
      refine ⟨h1, SubB.append.trans h2, ?_, fun v => ?_⟩
      · unfold fillArgs; rw [hval, h4]; rfl
      · rw [h5]
        have e : v ∈ Vs (l ++ [⟨t.name, n⟩]) ↔ v ∈ Vs l ∨ v = t.name := by simp [Vs]
        rw [e]
        constructor
        · rintro ((k | k) | ⟨u, hu, k⟩)
          · exact .inl k
          · exact .inr ⟨t, by simp, htv, k.symm⟩
          · exact .inr ⟨u, by simp [hu], k⟩
        · rintro (k | ⟨u, hu, k⟩)
          · exact .inl (.inl k)
          · rcases List.mem_cons.1 hu with e2 | hu
            · rw [e2] at k; exact .inl (.inr k.2.symm)
            · exact .inr ⟨u, hu, k⟩
    | some k =>
      rw [hv] at h
      dsimp only at h
      by_cases hk : k = n
      · subst hk
        rw [if_pos rfl] at h
        obtain ⟨h1, h2, h4, h5⟩ := meetL_spec ts ns l m hl' hn h
        refine ⟨h1, h2, ?_, fun v => ?_⟩
        · unfold fillArgs; rw [h2.valT hv, h4]; rfl
        · rw [h5]
          constructor
          · rintro (h | ⟨u, hu, h⟩)
            · exact .inl h
            · exact .inr ⟨u, by simp [hu], h⟩
          · rintro (h | ⟨u, hu, h⟩)
            · exact .inl h
            · rcases List.mem_cons.1 hu with rfl | hu
              · left
                unfold valT at hv
                rw [if_pos h.1] at hv
                rw [← h.2]
                exact List.mem_map.2 ⟨_, getB_mem hv, rfl⟩
              · exact .inr ⟨u, hu, h⟩
      · rw [if_neg hk] at h; cases h
end Go.Proofs.Ythieomebngiabaa
namespace Go.Proofs.Ythieomebngiabaa
theorem mem_varsF (v : Str) : ∀ (l : List PTerm) (acc : List Str), v ∈ varsF acc l ↔ v ∈ acc ∨ ∃ t ∈ l, t.var = true ∧ t.name = v
  | [], acc => by simp [varsF]
  | t :: l, acc => by
    rw [varsF, mem_varsF v l]
    have h : v ∈ (if t.var && !memS t.name acc then acc ++ [t.name] else acc) ↔ v ∈ acc ∨ (t.var = true ∧ t.name = v) := by
      by_cases ht : t.var = true
      · by_cases hm : memS t.name acc = true
        · rw [if_neg (by simp [hm])]
          constructor
          · exact .inl
          · rintro (h | ⟨-, rfl⟩)
            · exact h
            · exact (memS_iff _ _).1 hm
        · rw [if_pos (by simp [ht, hm])]
          simp only [List.mem_append, List.mem_singleton]
          constructor
          · rintro (h | h)
            · exact .inl h
            · exact .inr ⟨ht, h.symm⟩
          · rintro (h | ⟨-, h⟩)
            · exact .inl h
            · exact .inr h.symm
      · rw [if_neg (by simp [ht])]
        constructor
        · exact .inl
        · rintro (h | ⟨h, -⟩)
          · exact h
          · exact absurd h ht
    rw [h]
    constructor
    · rintro ((h | h) | ⟨u, hu, h⟩)
      · exact .inl h
      · exact .inr ⟨t, by simp, h⟩
      · exact .inr ⟨u, by simp [hu], h⟩
    · rintro (k | ⟨u, hu, k⟩)
      · exact .inl (.inl k)
      · rcases List.mem_cons.1 hu with e | hu
        · rw [e] at k; exact .inl (.inr k)
        · exact .inr ⟨u, hu, k⟩
theorem mem_varsOf (v : Str) (a : PAtom) : v ∈ varsOf a ↔ ∃ t ∈ a.terms, t.var = true ∧ t.name = v := by
  unfold varsOf; rw [mem_varsF]; simp
theorem mem_heldOf (v : Str) (l : List PAtom) : v ∈ heldOf l ↔ ∃ a ∈ l, a.neg = false ∧ v ∈ varsOf a := by
  unfold heldOf
  rw [List.mem_flatMap]
  constructor
  · rintro ⟨a, ha, h⟩
    cases hn : a.neg
    · rw [hn] at h; exact ⟨a, ha, hn, by simpa using h⟩
    · rw [hn] at h; simp at h
  · rintro ⟨a, ha, hn, h⟩
    exact ⟨a, ha, by rw [hn]; simpa using h⟩
theorem body_free {l : List PAtom} (h : bodyBad l = 0) {a : PAtom} (ha : a ∈ l) {v : Str} (hv : v ∈ varsOf a) : v ∈ heldOf l := by
  unfold bodyBad at h
  split at h
  · exact absurd h (by decide)
  · split at h
    · rename_i h1; exact absurd h h1
    · split at h
      · rename_i h1
        unfold freeIn at h1
        rw [List.all_eq_true] at h1
        have := h1 a ha
        rw [List.all_eq_true] at this
        exact (memS_iff _ _).1 (this v hv)
      · exact absurd h (by decide)
theorem body_atoms {l : List PAtom} (h : bodyBad l = 0) : l.length ≤ 5 := by
  unfold bodyBad at h
  split at h
  · exact absurd h (by decide)
  · omega
section
variable {pick : Nat → List PFact}
theorem mem_stepP {ls : List Binds} {a : PAtom} {fs : List PFact} {m : Binds} : m ∈ stepP ls a fs ↔ ∃ l ∈ ls, ∃ f ∈ fs, meetP a f l = some m := by
  unfold stepP
  simp [List.mem_flatMap, List.mem_filterMap]
theorem goP_sound : ∀ (body : List PAtom) (i : Nat) (ls out : List Binds), goP pick i ls body = some out → (∀ l ∈ ls, Nd l) →
    ∀ m ∈ out, ∃ l ∈ ls, Nd m ∧ SubB l m ∧ (∀ v, v ∈ Vs m ↔ v ∈ Vs l ∨ ∃ a ∈ body, a.neg = false ∧ v ∈ varsOf a) ∧
      ∀ j a, body[j]? = some a → a.neg = false → ∃ f, fillP a m = some f ∧ f ∈ pick (i + j)
  | [], i, ls, out, h, hn, m, hm => by
    obtain rfl := Option.some.inj h
    exact ⟨m, hm, hn m hm, fun v n h => h, by simp, by simp⟩
  | a :: b, i, ls, out, h, hn, m, hm => by
    unfold goP at h
    cases hneg : a.neg
    · rw [if_neg (by simp [hneg])] at h
      split at h
      · cases h
      · have hn1 : ∀ l ∈ stepP ls a (pick i), Nd l := fun l hl => by
          obtain ⟨l0, h0, f, hf, hm⟩ := mem_stepP.1 hl
          unfold meetP at hm
          split at hm
          · rename_i hc; exact (meetL_spec _ _ _ _ hc.2 (hn l0 h0) hm).1
          · cases hm
        obtain ⟨l1, hl1, g1, g2, g3, g4⟩ := goP_sound b (i + 1) _ out h hn1 m hm
        obtain ⟨l0, h0, f, hf, hmt⟩ := mem_stepP.1 hl1
        unfold meetP at hmt
        split at hmt
        · rename_i hc
          obtain ⟨k1, k2, k3, k4⟩ := meetL_spec _ _ _ _ hc.2 (hn l0 h0) hmt
          refine ⟨l0, h0, g1, k2.trans g2, fun v => ?_, fun j x hx hxn => ?_⟩
          · rw [g3, k4]
            constructor
            · rintro ((h | h) | ⟨x, hx, h⟩)
              · exact .inl h
              · exact .inr ⟨a, by simp, hneg, (mem_varsOf v a).2 h⟩
              · exact .inr ⟨x, by simp [hx], h⟩
            · rintro (h | ⟨x, hx, h⟩)
              · exact .inl (.inl h)
              · rcases List.mem_cons.1 hx with e | hx
                · rw [e] at h; exact .inl (.inr ((mem_varsOf v a).1 h.2))
                · exact .inr ⟨x, hx, h⟩
          · cases j with
            | zero =>
              obtain rfl : a = x := by simpa using hx
              refine ⟨f, ?_, hf⟩
              refine g2.fillP ?_
              unfold fillP
              rw [k3, hc.1]
              rfl
            | succ j =>
              obtain ⟨f', h1, h2⟩ := g4 j x (by simpa using hx) hxn
              exact ⟨f', h1, by rw [show i + (j + 1) = i + 1 + j by omega]; exact h2⟩
        · cases hmt
    · rw [if_pos (by simp [hneg])] at h
      obtain ⟨l1, hl1, g1, g2, g3, g4⟩ := goP_sound b (i + 1) ls out h hn m hm
      refine ⟨l1, hl1, g1, g2, fun v => ?_, fun j x hx hxn => ?_⟩
      · rw [g3]
        constructor
        · rintro (h | ⟨x, hx, h⟩)
          · exact .inl h
          · exact .inr ⟨x, by simp [hx], h⟩
        · rintro (h | ⟨x, hx, h⟩)
          · exact .inl h
          · rcases List.mem_cons.1 hx with e | hx
            · rw [e, hneg] at h; cases h.1
            · exact .inr ⟨x, hx, h⟩
      · cases j with
        | zero =>
          obtain rfl : a = x := by simpa using hx
          rw [hneg] at hxn; cases hxn
        | succ j =>
          obtain ⟨f', h1, h2⟩ := g4 j x (by simpa using hx) hxn
          exact ⟨f', h1, by rw [show i + (j + 1) = i + 1 + j by omega]; exact h2⟩
theorem mem_notP : ∀ (body : List PAtom) (i : Nat) (ls : List Binds) (l : Binds), l ∈ notP pick i ls body ↔ l ∈ ls ∧ ∀ j a, body[j]? = some a → a.neg = true → hitP a (pick (i + j)) l = false
  | [], i, ls, l => by simp [notP]
  | a :: b, i, ls, l => by
    unfold notP
    rw [mem_notP b]
    cases hneg : a.neg
    · rw [if_neg (by simp)]
      constructor
      · rintro ⟨h1, h2⟩
        refine ⟨h1, fun j x hx hn => ?_⟩
        cases j with
        | zero => obtain rfl : a = x := by simpa using hx
                  rw [hneg] at hn; cases hn
        | succ j => rw [show i + (j + 1) = i + 1 + j by omega]; exact h2 j x (by simpa using hx) hn
      · rintro ⟨h1, h2⟩
        exact ⟨h1, fun j x hx hn => by rw [show i + 1 + j = i + (j + 1) by omega]; exact h2 (j + 1) x (by simpa using hx) hn⟩
    · rw [if_pos rfl]
      simp only [List.mem_filter, Bool.not_eq_true']
      constructor
      · rintro ⟨⟨h1, h3⟩, h2⟩
        refine ⟨h1, fun j x hx hn => ?_⟩
        cases j with
        | zero => obtain rfl : a = x := by simpa using hx
                  exact h3
        | succ j => rw [show i + (j + 1) = i + 1 + j by omega]; exact h2 j x (by simpa using hx) hn
      · rintro ⟨h1, h2⟩
        exact ⟨⟨h1, h2 0 a rfl hneg⟩, fun j x hx hn => by rw [show i + 1 + j = i + (j + 1) by omega]; exact h2 (j + 1) x (by simpa using hx) hn⟩
end
theorem length_addC {α : Type} [DecidableEq α] {c : α → α → Int} (f : α) : ∀ l : List α, f ∉ l → (addC c f l).length = l.length + 1
  | [], _ => rfl
  | g :: l, h => by
    unfold addC
    split
    · rfl
    · rw [if_neg (fun e => h (by simp [e]))]
      rw [List.length_cons, length_addC f l (fun hm => h (by simp [hm])), List.length_cons]
theorem length_ofC {α : Type} [DecidableEq α] {c : α → α → Int} (h3 : Cmp3 c) : ∀ l : List α, l.Nodup → (ofC c l).length = l.length
  | [], _ => rfl
  | f :: l, h => by
    rw [List.nodup_cons] at h
    show (addC c f (ofC c l)).length = _
    rw [length_addC f _ (fun hm => h.1 ((mem_ofC h3 _ _).1 hm)), length_ofC h3 l h.2, List.length_cons]
theorem nd_nodup {l : Binds} (h : Nd l) : l.Nodup := by
  have h' : (l.map (·.var)).Pairwise (· ≠ ·) := h
  rw [List.pairwise_map] at h'
  exact h'.imp fun hne e => hne (by rw [e])
theorem mem_tidyP {ls : List Binds} {m : Binds} : m ∈ tidyP ls ↔ ∃ l ∈ ls, ofC cmpBind l = m := by
  unfold tidyP
  rw [mem_ofC cmpBinds3, List.mem_map]
end Go.Proofs.Ythieomebngiabaa
namespace Go.Proofs.Ythieomebngiabaa
open Go.RowKit
theorem isNaNStr (x : Str) (w : World) : Calls Try.prog 58 #[.string x] w fun e w' => e = .returned (.bool false) ∧ w = w' := by
  go_enter Try.func58, Try.ntmps58
  go_wp2
  go_ret
  exact ⟨by simp, rfl⟩
theorem isNaNInt (x : Int) (w : World) : Calls Try.prog 66 #[.int .i64 x] w fun e w' => e = .returned (.bool false) ∧ w = w' := by
  go_enter Try.func66, Try.ntmps66
  go_wp2
  go_ret
  exact ⟨by simp, rfl⟩
set_option maxHeartbeats 400000 in
theorem compareStr (x y : Str) (w : World) : Calls Try.prog 38 #[.string x, .string y] w fun e w' => e = .returned (.int .i64 (cmpStr x y)) ∧ w = w' := by
  by_cases h1 : strLt x y = true
  · have g1 : Op.bytesLess x.toList y.toList = true := h1
    have e : cmpStr x y = -1 := by simp [cmpStr, h1]
    rw [e]
    clear e h1
    go_enter Try.func38, Try.ntmps38
    go_wp2_with (go_at_call 58; refine (isNaNStr _ _).mono ?_; rintro e w' ⟨rfl, rfl⟩)
    go_ret
    exact ⟨rfl, rfl⟩
  · have g1 : Op.bytesLess x.toList y.toList = false := by simpa [strLt] using h1
    by_cases h2 : strLt y x = true
    · have g2 : (x.toList == y.toList) = false := by
        rw [beq_eq_false_iff_ne]
        intro he
        have := toList_inj he
        subst this
        rw [strLt_irrefl] at h2
        cases h2
      have e : cmpStr x y = 1 := by simp [cmpStr, h1, h2]
      rw [e]
      clear e h1 h2
      go_enter Try.func38, Try.ntmps38
      go_wp2_with (go_at_call 58; refine (isNaNStr _ _).mono ?_; rintro e w' ⟨rfl, rfl⟩)
      go_ret
      exact ⟨rfl, rfl⟩
    · have he : x = y := strLt_tri (by simpa using h1) (by simpa using h2)
      have g2 : (x.toList == y.toList) = true := by rw [he]; exact beq_self_eq_true _
      have e : cmpStr x y = 0 := by simp [cmpStr, h1, h2]
      rw [e]
      clear e h1 h2 he
      go_enter Try.func38, Try.ntmps38
      go_wp2_with (go_at_call 58; refine (isNaNStr _ _).mono ?_; rintro e w' ⟨rfl, rfl⟩)
      go_ret
      exact ⟨rfl, rfl⟩
set_option maxHeartbeats 400000 in
theorem compareInt (x y : Int) (w : World) : Calls Try.prog 56 #[.int .i64 x, .int .i64 y] w fun e w' => e = .returned (.int .i64 (cmpInt x y)) ∧ w = w' := by
  unfold cmpInt
  by_cases h1 : x < y
  · rw [if_pos h1]
    go_enter Try.func56, Try.ntmps56
    go_wp2_with (go_at_call 66; refine (isNaNInt _ _).mono ?_; rintro e w' ⟨rfl, rfl⟩)
    go_ret
    exact ⟨rfl, rfl⟩
  · rw [if_neg h1]
    by_cases h2 : y < x
    · rw [if_pos h2]
      go_enter Try.func56, Try.ntmps56
      go_wp2_with (go_at_call 66; refine (isNaNInt _ _).mono ?_; rintro e w' ⟨rfl, rfl⟩)
      go_ret
      exact ⟨rfl, rfl⟩
    · rw [if_neg h2]
      go_enter Try.func56, Try.ntmps56
      go_wp2_with (go_at_call 66; refine (isNaNInt _ _).mono ?_; rintro e w' ⟨rfl, rfl⟩)
      go_ret
      exact ⟨rfl, rfl⟩
theorem cmpStrs_drop_cons {x : Str} {l : List Str} {k : Nat} (h : l[k]? = some x) : l.drop k = x :: l.drop (k + 1) := by
  obtain ⟨hk, rfl⟩ := List.getElem?_eq_some_iff.1 h
  exact List.drop_eq_getElem_cons hk
set_option maxHeartbeats 1000000 in
theorem slicesCompare {S T : Nat → Prop} (v1 v2 : Value) (l1 l2 : List Str) (w : World) (h1 : RdStrs S w v1 l1) (h2 : RdStrs T w v2 l2) (n1 : l1.length ≤ 1073741824) :
    Calls Try.prog 57 #[v1, v2] w fun e w' => e = .returned (.int .i64 (cmpStrs l1 l2)) ∧ w = w' := by
  obtain ⟨a1, c1, rfl, -, -, -⟩ := h1.form
  obtain ⟨a2, c2, rfl, -, -, -⟩ := h2.form
  have H1 := Lib.hid h1
  have H2 := Lib.hid h2
  clear h1 h2
  go_enter Try.func57, Try.ntmps57
  go_wp2
  go_loop [11, 5, 6, 7, 8] (fun i _ _ _ _ => ∃ k : Nat, k ≤ l1.length ∧ k ≤ l2.length ∧ i = .int .i64 k ∧ cmpStrs l1 l2 = cmpStrs (l1.drop k) (l2.drop k)) (fun i _ _ _ _ => l1.length - (intOf i).toNat)
  case atStart => exact ⟨0, Nat.zero_le _, Nat.zero_le _, rfl, rfl⟩
  case round =>
    obtain ⟨k, hk, hk2, rfl, hr⟩ := hrel
    have HR := Lib.hid hr
    clear hr
    by_cases hlt : k < l1.length
    · obtain ⟨x, hx⟩ : ∃ x, l1[k]? = some x := ⟨_, List.getElem?_eq_getElem hlt⟩
      obtain ⟨b1, o1, rfl, -, -, hc1⟩ := H1.out.at hx
      have HX := Lib.hid hx
      clear hx
      by_cases hlt2 : k < l2.length
      · obtain ⟨y, hy⟩ : ∃ y, l2[k]? = some y := ⟨_, List.getElem?_eq_getElem hlt2⟩
        obtain ⟨b2, o2, rfl, -, -, hc2⟩ := H2.out.at hy
        have HY := Lib.hid hy
        clear hy
        by_cases hz : cmpStr x y = 0
        · have gz : (cmpStr x y != 0) = false := by simp [hz]
          have HZ := Lib.hid hz
          clear hz
          go_wp2_with (go_at_call 38; refine (compareStr _ _ _).mono ?_; rintro e w' ⟨rfl, rfl⟩)
          go_round
          case rel =>
            refine ⟨k + 1, by omega, by omega, by go_num, ?_⟩
            rw [HR.out, cmpStrs_drop_cons HX.out, cmpStrs_drop_cons HY.out]
            simp [cmpStrs, HZ.out]
          case measure => simp [intOf]; omega
        · have gz : (cmpStr x y != 0) = true := by simp [hz]
          have HZ := Lib.hid hz
          clear hz
          go_wp2_with (go_at_call 38; refine (compareStr _ _ _).mono ?_; rintro e w' ⟨rfl, rfl⟩)
          go_ret
          refine ⟨ret_int ?_, rfl⟩
          rw [HR.out, cmpStrs_drop_cons HX.out, cmpStrs_drop_cons HY.out]
          simp [cmpStrs, HZ.out]
      · go_wp2
        go_ret
        refine ⟨ret_int ?_, rfl⟩
        rw [HR.out, cmpStrs_drop_cons HX.out, List.drop_eq_nil_of_le (by omega : l2.length ≤ k)]
        simp [cmpStrs]
    · by_cases hlt2 : k < l2.length
      · go_wp2
        go_ret
        refine ⟨ret_int ?_, rfl⟩
        rw [HR.out, List.drop_eq_nil_of_le (by omega : l1.length ≤ k)]
        obtain ⟨y, hy⟩ : ∃ y, l2[k]? = some y := ⟨_, List.getElem?_eq_getElem hlt2⟩
        rw [cmpStrs_drop_cons hy]
        simp [cmpStrs]
      · go_wp2
        go_ret
        refine ⟨ret_int ?_, rfl⟩
        rw [HR.out, List.drop_eq_nil_of_le (by omega : l1.length ≤ k), List.drop_eq_nil_of_le (by omega : l2.length ≤ k)]
        simp [cmpStrs]
theorem orInt_drop_cons {x : Int} {l : List Int} {k : Nat} (h : l[k]? = some x) : l.drop k = x :: l.drop (k + 1) := by
  obtain ⟨hk, rfl⟩ := List.getElem?_eq_some_iff.1 h
  exact List.drop_eq_getElem_cons hk
set_option maxHeartbeats 400000 in
theorem cmpOr {S : Nat → Prop} (v : Value) (l : List Int) (w : World) (h : RdInts S w v l) (n1 : l.length ≤ 1073741824) :
    Calls Try.prog 37 #[v] w fun e w' => e = .returned (.int .i64 (orInt l)) ∧ w = w' := by
  obtain ⟨a, c, rfl, -, -, -⟩ := h.form
  have H := Lib.hid h
  clear h
  go_enter Try.func37, Try.ntmps37
  go_wp2
  go_loop [8, 5] (fun i _ => ∃ k : Nat, k ≤ l.length ∧ i = .int .i64 k ∧ orInt l = orInt (l.drop k)) (fun i _ => l.length - (intOf i).toNat)
  case atStart => exact ⟨0, Nat.zero_le _, rfl, rfl⟩
  case round =>
    obtain ⟨k, hk, rfl, hr⟩ := hrel
    have HR := Lib.hid hr
    clear hr
    by_cases hlt : k < l.length
    · obtain ⟨x, hx⟩ : ∃ x, l[k]? = some x := ⟨_, List.getElem?_eq_getElem hlt⟩
      obtain ⟨b, o, rfl, -, -, hc⟩ := H.out.at hx
      have HX := Lib.hid hx
      clear hx
      by_cases hz : x = 0
      · subst hz
        go_wp2
        go_round
        case rel =>
          refine ⟨k + 1, by omega, by go_num, ?_⟩
          rw [HR.out, orInt_drop_cons HX.out]
          simp [orInt]
        case measure => simp [intOf]; omega
      · have gz : (x != 0) = true := by simp [hz]
        have HZ := Lib.hid hz
        clear hz
        go_wp2
        go_ret
        refine ⟨ret_int ?_, rfl⟩
        rw [HR.out, orInt_drop_cons HX.out]
        simp [orInt, HZ.out]
    · go_wp2
      go_ret
      refine ⟨ret_int ?_, rfl⟩
      rw [HR.out, List.drop_eq_nil_of_le (by omega : l.length ≤ k)]
      rfl
theorem cmpOr3 (p q r : Int) (w : World) (b : Nat) (h : w.heap[b]? = some (.cells #[.int .i64 p, .int .i64 q, .int .i64 r] 3 (0, 0))) :
    Calls Try.prog 37 #[.slice (some ⟨b, 0, none⟩) 3 3] w fun e w' => e = .returned (.int .i64 (orInt [p, q, r])) ∧ w = w' :=
  cmpOr (S := fun _ => True) _ [p, q, r] w (RdInts.block rfl h trivial (by unfold maxLen; omega)) (by simp)
attribute [local go_sem ↓] Go.wp_at_zero Go.wp_at_succ
set_option maxHeartbeats 2000000 in
theorem compareFact {S T : Nat → Prop} (f g : PFact) (va vb : Value) (w : World) (h1 : RdStrs S w va f.args) (h2 : RdStrs T w vb g.args) (n1 : f.args.length ≤ 1073741824) :
    Calls Try.prog 33 #[.agg #[.string f.name, va], .agg #[.string g.name, vb]] w fun e w' => e = .returned (.int .i64 (cmpFact f g)) ∧ Fresh w w' := by
  have K3 : ∀ w', Agree (fun _ => True) w w' → Calls Try.prog 57 #[va, vb] w' fun e w'' => e = .returned (.int .i64 (cmpStrs f.args g.args)) ∧ w' = w'' :=
    fun w' ha => slicesCompare va vb f.args g.args w' ((h1.more RStr.steady (fun _ _ _ => trivial)).agree RStr.steady ha) ((h2.more RStr.steady (fun _ _ _ => trivial)).agree RStr.steady ha) n1
  obtain ⟨a1, c1, rfl, -, -, -⟩ := h1.form
  obtain ⟨a2, c2, rfl, -, -, -⟩ := h2.form
  have e3 : cmpFact f g = orInt [cmpStr f.name g.name, cmpInt f.args.length g.args.length, cmpStrs f.args g.args] := rfl
  rw [e3]
  clear e3 h1 h2
  have HK := Lib.hid K3
  clear K3
  generalize cmpStrs f.args g.args = r3 at *
  go_enter Try.func33, Try.ntmps33
  go_wp2_with fail
  go_region_held3 (fun w' => w'.cell? ⟨w.heap.size, 0, none⟩ = some (.string f.name) ∧ w'.cell? ⟨w.heap.size, 1, none⟩ = some (.slice a1 f.args.length c1) ∧
      w'.cell? ⟨w.heap.size + 1, 0, none⟩ = some (.string g.name) ∧ w'.cell? ⟨w.heap.size + 1, 1, none⟩ = some (.slice a2 g.args.length c2)) (go_keep)
    (first
      | (go_at_call 38; refine (compareStr _ _ _).mono ?_; rintro e w' ⟨rfl, rfl⟩)
      | (go_at_call 56; refine (compareInt _ _ _).mono ?_; rintro e w' ⟨rfl, rfl⟩)
      | (go_at_call 57; refine (HK.out _ ?_).mono ?_; (exact ((Agree.refl _ _).alloc _).alloc _); rintro e w' ⟨rfl, rfl⟩)
      | (go_at_call 37; refine (cmpOr3 (cmpStr f.name g.name) (cmpInt f.args.length g.args.length) r3 _ _ ?_).mono ?_; (exact heap_new_at (by simp)); rintro e w' ⟨rfl, rfl⟩))
  go_wp2
  go_ret
  exact ⟨rfl, ((((Fresh.refl _).alloc _).alloc _).alloc _).drew⟩
end Go.Proofs.Ythieomebngiabaa
namespace Go.Proofs.Ythieomebngiabaa
open Go.RowKit
attribute [local go_sem ↓] Go.wp_at_zero Go.wp_at_succ
set_option maxRecDepth 100000 in
set_option maxHeartbeats 2000000 in
theorem searchFact {S T : Nat → Prop} (v : Value) (l : List PFact) (f : PFact) (av : Value) (w : World) (h : RdFacts S w v l) (hf : RdStrs T w av f.args) (hs : Rising l)
    (n1 : l.length ≤ 1073741824) (n2 : ∀ x ∈ l, x.args.length ≤ 1073741824) :
    Calls Try.prog 35 #[v, .agg #[.string f.name, av], .func (.func 33) #[] #[]] w fun e w' => (∃ i : Int, e = .returned (.tuple #[.int .i64 i, .bool (memF f l)])) ∧ Fresh w w' := by
  obtain ⟨a, c, rfl, -, -, -⟩ := id h.form
  obtain ⟨fa, fc, rfl, -, -, -⟩ := id hf.form
  have H := Lib.hid h
  have HF := Lib.hid hf
  have N2 := Lib.hid n2
  have HS := Lib.hid hs
  clear h hf n2 hs
  have hW : Hid (Agree (fun _ => True) w (w.alloc (.cells #[.string f.name, .slice fa f.args.length fc] 41))) := (Agree.refl _ _).alloc _
  have hc0 : (w.alloc (.cells #[.string f.name, .slice fa f.args.length fc] 41)).cell? ⟨w.heap.size, 0, none⟩ = some (.string f.name) := by simp
  have hc1 : (w.alloc (.cells #[.string f.name, .slice fa f.args.length fc] 41)).cell? ⟨w.heap.size, 1, none⟩ = some (.slice fa f.args.length fc) := by simp
  have hw0 : Hid (Fresh w (w.alloc (.cells #[.string f.name, .slice fa f.args.length fc] 41))) := (Fresh.refl _).alloc _
  have hcs : w.heap.size < (w.alloc (.cells #[.string f.name, .slice fa f.args.length fc] 41)).heap.size := by simp
  go_enter Try.func35, Try.ntmps35
  go_wp2
  generalize w.alloc (.cells #[.string f.name, .slice fa f.args.length fc] 41) = w0 at *
  go_loopw [9, 10, 11] (fun ui uj _ wr => ∃ i j : Nat, i ≤ j ∧ j ≤ l.length ∧ ui = .int .i64 i ∧ uj = .int .i64 j ∧ Hid (∀ a x, a < i → l[a]? = some x → cmpFact x f < 0) ∧ Hid (∀ a x, j ≤ a → l[a]? = some x → 0 ≤ cmpFact x f) ∧ Fresh w0 wr)
    (fun ui uj _ _ => (intOf uj - intOf ui).toNat)
  case atStart => exact ⟨0, l.length, Nat.zero_le _, Nat.le_refl _, rfl, rfl, fun a x h => by omega, fun a x h hx => by have := (List.getElem?_eq_some_iff.1 hx).1; omega, Fresh.refl _⟩
  case round =>
    obtain ⟨i, j, hij, hj, rfl, rfl, hlo, hhi, hfr⟩ := hrel
    have hwr : Hid (Agree (fun _ => True) w wr) := hW.out.trans (Below.agree hfr.below)
    have hd0 := (cell_below hfr.below hcs 0).trans hc0
    have hd1 := (cell_below hfr.below hcs 1).trans hc1
    have hds : w.heap.size < wr.heap.size := Nat.lt_of_lt_of_le hcs hfr.below.size
    have HFR := Lib.hid hfr
    clear hfr hc0 hc1 hcs hW
    by_cases hlt : i < j
    · obtain ⟨m, hm⟩ : ∃ m : Nat, ((i : Int) + j) / 2 = m := ⟨(i + j) / 2, by omega⟩
      have hm1 : i ≤ m := by omega
      have hm2 : m < j := by omega
      obtain ⟨x, hx⟩ : ∃ x, l[m]? = some x := ⟨_, List.getElem?_eq_getElem (by omega)⟩
      have hn2 : x.args.length ≤ 1073741824 := N2.out x (List.mem_of_getElem? hx)
      obtain ⟨b1, o1, xv, rfl, -, hb1, hx0, hx1, hxv⟩ := RdFacts.at ((H.out.more RFact.steady (fun _ _ _ => trivial)).agree RFact.steady hwr.out) hx
      obtain ⟨xa, xc, rfl, -, -, -⟩ := id hxv.form
      have K := Lib.hid (fun W (ha : Agree (fun _ => True) wr W) => compareFact x f (.slice xa x.args.length xc) (.slice fa f.args.length fc) W (hxv.agree RStr.steady ha) ((HF.out.more RStr.steady (fun _ _ _ => trivial)).agree RStr.steady (hwr.out.trans ha)) hn2)
      obtain ⟨q, hq⟩ : ∃ q, cmpFact x f = q := ⟨_, rfl⟩
      rw [hq] at K
      have HX := Lib.hid hx
      have HQ := Lib.hid hq
      have i1 : (0 : Int) ≤ (m : Int) := by omega
      have i2 : (m : Int) < (l.length : Int) := by omega
      clear hxv hx hq hwr
      by_cases hz : q < 0
      · go_wp2_with fail
        go_region_held3 (fun w' => w'.cell? ⟨b1, o1 + m * 2, none⟩ = some (.string x.name) ∧ w'.cell? ⟨b1, o1 + m * 2 + 1, none⟩ = some (.slice xa x.args.length xc) ∧
            w'.cell? ⟨w.heap.size, 0, none⟩ = some (.string f.name) ∧ w'.cell? ⟨w.heap.size, 1, none⟩ = some (.slice fa f.args.length fc))
          (first | (refine ⟨?_, ?_, ?_, ?_⟩ <;> (first | (rw [hk2 _ hb1]; assumption) | (rw [hk2 _ hds]; assumption))) | go_keep)
          (first
            | (go_at_call 33; refine (K.out _ (Agree.refl _ _).drew).mono ?_; rintro e w1 ⟨rfl, hf1⟩; have hk2 : ∀ c, c < wr.heap.size → ∀ off, w1.cell? ⟨c, off, none⟩ = wr.cell? ⟨c, off, none⟩ := fun c hc off => cell_below (w := wr.drew) hf1.below hc off))
        have HF2 : Hid (Fresh w0 w1) := (HFR.out.drew).trans hf1
        clear hf1 hk2 hd0 hd1 hx0 hx1
        go_wp2
        go_roundw
        case rel =>
          refine ⟨m + 1, j, by omega, hj, by go_num, rfl, ?_, hhi, HF2.out⟩
          intro a y ha hy
          by_cases e : a = m
          · subst e
            rw [HX.out] at hy
            injection hy with hy
            rw [← hy, HQ.out]; exact hz
          · have h1 : ltF y x = true := by
              have := HS.out
              obtain ⟨_, rfl⟩ := List.getElem?_eq_some_iff.1 hy
              obtain ⟨_, rfl⟩ := List.getElem?_eq_some_iff.1 HX.out
              exact List.pairwise_iff_getElem.1 this a m _ _ (by omega)
            have h2 : cmpFact y x < 0 := by simpa [ltF] using h1
            exact cmpFact3.trans _ _ _ h2 (by rw [HQ.out]; exact hz)
        case measure => simp [intOf]; omega
      · go_wp2_with fail
        go_region_held3 (fun w' => w'.cell? ⟨b1, o1 + m * 2, none⟩ = some (.string x.name) ∧ w'.cell? ⟨b1, o1 + m * 2 + 1, none⟩ = some (.slice xa x.args.length xc) ∧
            w'.cell? ⟨w.heap.size, 0, none⟩ = some (.string f.name) ∧ w'.cell? ⟨w.heap.size, 1, none⟩ = some (.slice fa f.args.length fc))
          (first | (refine ⟨?_, ?_, ?_, ?_⟩ <;> (first | (rw [hk2 _ hb1]; assumption) | (rw [hk2 _ hds]; assumption))) | go_keep)
          (first
            | (go_at_call 33; refine (K.out _ (Agree.refl _ _).drew).mono ?_; rintro e w1 ⟨rfl, hf1⟩; have hk2 : ∀ c, c < wr.heap.size → ∀ off, w1.cell? ⟨c, off, none⟩ = wr.cell? ⟨c, off, none⟩ := fun c hc off => cell_below (w := wr.drew) hf1.below hc off))
        have HF2 : Hid (Fresh w0 w1) := (HFR.out.drew).trans hf1
        clear hf1 hk2 hd0 hd1 hx0 hx1
        go_wp2
        go_roundw
        case rel =>
          refine ⟨i, m, by omega, by omega, rfl, rfl, hlo, ?_, HF2.out⟩
          intro a y ha hy
          by_cases e : a = m
          · subst e
            rw [HX.out] at hy
            injection hy with hy
            rw [← hy, HQ.out]; omega
          · have h1 : ltF x y = true := by
              have := HS.out
              obtain ⟨_, rfl⟩ := List.getElem?_eq_some_iff.1 hy
              obtain ⟨_, rfl⟩ := List.getElem?_eq_some_iff.1 HX.out
              exact List.pairwise_iff_getElem.1 this m a _ _ (by omega)
            have h2 : cmpFact x y < 0 := by simpa [ltF] using h1
            refine Int.not_lt.1 fun h3 => ?_
            have := cmpFact3.trans _ _ _ h2 h3
            rw [HQ.out] at this
            omega
        case measure => simp [intOf]; omega
    · obtain rfl : i = j := by omega
      by_cases hin : i < l.length
      · obtain ⟨x, hx⟩ : ∃ x, l[i]? = some x := ⟨_, List.getElem?_eq_getElem (by omega)⟩
        have hn2 : x.args.length ≤ 1073741824 := N2.out x (List.mem_of_getElem? hx)
        obtain ⟨b1, o1, xv, rfl, -, hb1, hx0, hx1, hxv⟩ := RdFacts.at ((H.out.more RFact.steady (fun _ _ _ => trivial)).agree RFact.steady hwr.out) hx
        obtain ⟨xa, xc, rfl, -, -, -⟩ := id hxv.form
        have K := Lib.hid (fun W (ha : Agree (fun _ => True) wr W) => compareFact x f (.slice xa x.args.length xc) (.slice fa f.args.length fc) W (hxv.agree RStr.steady ha) ((HF.out.more RStr.steady (fun _ _ _ => trivial)).agree RStr.steady (hwr.out.trans ha)) hn2)
        have hmem : memF f l = (cmpFact x f == 0) := by
          rw [Bool.eq_iff_iff, memF_iff, beq_iff_eq, cmpFact3.zero]
          constructor
          · intro hfm
            obtain ⟨p, hp⟩ := List.mem_iff_getElem?.1 hfm
            by_cases h1 : p < i
            · have := hlo.out p f h1 hp; rw [cmpFact3.self] at this; omega
            · by_cases h2 : p = i
              · subst h2; rw [hx] at hp; exact Option.some.inj hp
              · have h3 : ltF x f = true := by
                  have := HS.out
                  obtain ⟨_, rfl⟩ := List.getElem?_eq_some_iff.1 hp
                  obtain ⟨_, rfl⟩ := List.getElem?_eq_some_iff.1 hx
                  exact List.pairwise_iff_getElem.1 this i p _ _ (by omega)
                have h4 : cmpFact x f < 0 := by simpa [ltF] using h3
                have := hhi.out i x (Nat.le_refl _) hx
                omega
          · intro e; subst e; exact List.mem_of_getElem? hx
        obtain ⟨q, hq⟩ : ∃ q, cmpFact x f = q := ⟨_, rfl⟩
        rw [hq] at K hmem
        have HM := Lib.hid hmem
        have i1 : (0 : Int) ≤ (i : Int) := by omega
        have i2 : (i : Int) < (l.length : Int) := by omega
        have i3 : decide ((i : Int) < (l.length : Int)) = true := decide_eq_true i2
        have i4 : decide (i < l.length) = true := decide_eq_true hin
        clear hxv hx hq hwr hmem
        go_wp2_with fail
        go_region_held3 (fun w' => w'.cell? ⟨b1, o1 + i * 2, none⟩ = some (.string x.name) ∧ w'.cell? ⟨b1, o1 + i * 2 + 1, none⟩ = some (.slice xa x.args.length xc) ∧
            w'.cell? ⟨w.heap.size, 0, none⟩ = some (.string f.name) ∧ w'.cell? ⟨w.heap.size, 1, none⟩ = some (.slice fa f.args.length fc))
          (first | (refine ⟨?_, ?_, ?_, ?_⟩ <;> (first | (rw [hk2 _ hb1]; assumption) | (rw [hk2 _ hds]; assumption))) | go_keep)
          (first
            | (go_at_call 33; refine (K.out _ (Agree.refl _ _).drew).mono ?_; rintro e w1 ⟨rfl, hf1⟩; have hk2 : ∀ c, c < wr.heap.size → ∀ off, w1.cell? ⟨c, off, none⟩ = wr.cell? ⟨c, off, none⟩ := fun c hc off => cell_below (w := wr.drew) hf1.below hc off))
        have HF2 : Hid (Fresh w0 w1) := (HFR.out.drew).trans hf1
        clear hf1 hk2 hd0 hd1 hx0 hx1
        go_wp2
        go_ret2
        exact ⟨⟨i, by rw [HM.out]; rfl⟩, (hw0.out).trans HF2.out⟩
      · have hmem : memF f l = false := by
          rw [← Bool.not_eq_true, memF_iff]
          intro hfm
          obtain ⟨p, hp⟩ := List.mem_iff_getElem?.1 hfm
          have := hlo.out p f (by have := (List.getElem?_eq_some_iff.1 hp).1; omega) hp
          rw [cmpFact3.self] at this; omega
        have HM := Lib.hid hmem
        clear hmem
        have i3 : decide ((i : Int) < (l.length : Int)) = false := decide_eq_false (by omega)
        have i4 : decide (i < l.length) = false := decide_eq_false hin
        go_wp2_with fail
        go_quiet (fail)
        go_wp2
        go_ret2
        exact ⟨⟨i, by rw [HM.out]; rfl⟩, (hw0.out).trans (HFR.out.trans ⟨nq, #[], by simp⟩)⟩
theorem inFact {S T : Nat → Prop} (v : Value) (l : List PFact) (f : PFact) (av : Value) (w : World) (h : RdFacts S w v l) (hf : RdStrs T w av f.args) (hs : Rising l)
    (n1 : l.length ≤ 1073741824) (n2 : ∀ x ∈ l, x.args.length ≤ 1073741824) :
    Calls Try.prog 19 #[v, .agg #[.string f.name, av]] w fun e w' => e = .returned (.bool (memF f l)) ∧ Fresh w w' := by
  obtain ⟨a, c, rfl, -, -, -⟩ := id h.form
  obtain ⟨fa, fc, rfl, -, -, -⟩ := id hf.form
  have K := Lib.hid (fun W (ha : Agree (fun _ => True) w W) => searchFact (.slice a l.length c) l f (.slice fa f.args.length fc) W ((h.more RFact.steady (fun _ _ _ => trivial)).agree RFact.steady ha) ((hf.more RStr.steady (fun _ _ _ => trivial)).agree RStr.steady ha) hs n1 n2)
  clear h hf hs n2
  go_enter Try.func19, Try.ntmps19
  go_wp2_with (go_at_call 35; refine (K.out _ ((Agree.refl _ _).alloc _)).mono ?_; rintro e w1 ⟨⟨i, rfl⟩, hf1⟩)
  go_ret
  exact ⟨rfl, ((Fresh.refl _).alloc _).trans hf1⟩
end Go.Proofs.Ythieomebngiabaa
