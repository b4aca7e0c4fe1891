/-
  PLAIN: orders on lists; what variables stand for (chapter 4): Get, Fill, Meet, and all the ways there are.
-/
import Derived.Test.YtmnpneandkiblaaFactP
import Derived.Test.YtmnpneandkiblaaCheckP
namespace Go.Proofs.Ytmnpneandkiblaa

/-! ### Rising lists of anything. -/
section
variable {α : Type} (c : α → α → Int)
def ltC (a b : α) : Bool := decide (c a b < 0)
def RisingC (l : List α) : Prop := l.Pairwise fun a b => ltC c a b = true
def addC [DecidableEq α] (f : α) : List α → List α
  | [] => [f]
  | g :: l => if ltC c f g then f :: g :: l else if f = g then g :: l else g :: addC f l
def ofC [DecidableEq α] (l : List α) : List α := l.foldr (addC c) []
/-- slices.CompareFunc. -/
def cmpLst : List α → List α → Int
  | [], [] => 0
  | [], _ :: _ => -1
  | _ :: _, [] => 1
  | a :: x, b :: y => if c a b ≠ 0 then c a b else cmpLst x y
end
section
variable {α : Type} {c : α → α → Int} (h3 : Cmp3 c)
include h3
theorem ltC_irrefl (f : α) : ltC c f f = false := by simp [ltC, h3.self]
theorem ltC_trans {f g d : α} (h : ltC c f g = true) (k : ltC c g d = true) : ltC c f d = true := by
  simp only [ltC, decide_eq_true_eq] at *; exact h3.trans _ _ _ h k
theorem ltC_asymm {f g : α} (h : ltC c f g = true) : ltC c g f = false := by
  simp only [ltC, decide_eq_true_eq, decide_eq_false_iff_not] at *; have := (h3.anti f g).1 h; omega
theorem ltC_tri {f g : α} (h : ltC c f g = false) (k : ltC c g f = false) : f = g := by
  simp only [ltC, decide_eq_false_iff_not] at *
  refine (h3.zero f g).1 ?_
  have := h3.anti g f
  omega
theorem addC_rising [DecidableEq α] (f : α) : ∀ l, RisingC c l → RisingC c (addC c f l) ∧ ∀ x, x ∈ addC c f l ↔ x = f ∨ x ∈ l
  | [], _ => by simp [addC, RisingC]
  | g :: l, h => by
    have hg := (List.pairwise_cons.1 h)
    unfold addC
    by_cases hl : ltC c f g = true
    · rw [if_pos hl]
      refine ⟨List.pairwise_cons.2 ⟨fun x hx => ?_, h⟩, by simp⟩
      rcases List.mem_cons.1 hx with rfl | hx
      · exact hl
      · exact ltC_trans h3 hl (hg.1 x hx)
    · rw [if_neg hl]
      by_cases e : f = g
      · rw [if_pos e]; subst e; exact ⟨h, by simp⟩
      · rw [if_neg e]
        obtain ⟨ih, im⟩ := addC_rising f l hg.2
        refine ⟨List.pairwise_cons.2 ⟨fun x hx => ?_, ih⟩, fun x => ?_⟩
        · rcases (im x).1 hx with rfl | hx
          · cases hgf : ltC c g x
            · exact absurd (ltC_tri h3 (by simpa using hl) hgf) e
            · rfl
          · exact hg.1 x hx
        · simp only [List.mem_cons, im]
          constructor
          · rintro (h | h | h) <;> simp [h]
          · rintro (h | h | h) <;> simp [h]
theorem ofC_rising [DecidableEq α] (l : List α) : RisingC c (ofC c l) := by
  induction l with
  | nil => exact List.Pairwise.nil
  | cons f l ih => exact (addC_rising h3 f _ ih).1
theorem mem_ofC [DecidableEq α] (x : α) (l : List α) : x ∈ ofC c l ↔ x ∈ l := by
  induction l with
  | nil => simp [ofC]
  | cons f l ih =>
    show x ∈ addC c f (ofC c l) ↔ _
    rw [(addC_rising h3 f _ (ofC_rising h3 l)).2, ih, List.mem_cons]
theorem risingC_ext : ∀ {a b : List α}, RisingC c a → RisingC c b → (∀ x, x ∈ a ↔ x ∈ b) → a = b
  | [], [], _, _, _ => rfl
  | [], y :: b, _, _, h => by have := (h y).2 (by simp); simp at this
  | x :: a, [], _, _, h => by have := (h x).1 (by simp); simp at this
  | x :: a, y :: b, ha, hb, h => by
    have ha' := List.pairwise_cons.1 ha
    have hb' := List.pairwise_cons.1 hb
    have e : x = y := by
      rcases List.mem_cons.1 ((h x).1 (by simp)) with e | hx
      · exact e
      · rcases List.mem_cons.1 ((h y).2 (by simp)) with e | hy
        · exact e.symm
        · have h1 := hb'.1 x hx
          have h2 := ha'.1 y hy
          rw [ltC_asymm h3 h1] at h2; cases h2
    subst e
    congr 1
    refine risingC_ext ha'.2 hb'.2 fun z => ?_
    constructor
    · intro hz
      rcases List.mem_cons.1 ((h z).1 (by simp [hz])) with rfl | hz'
      · have := ha'.1 z hz; rw [ltC_irrefl h3] at this; cases this
      · exact hz'
    · intro hz
      rcases List.mem_cons.1 ((h z).2 (by simp [hz])) with rfl | hz'
      · have := hb'.1 z hz; rw [ltC_irrefl h3] at this; cases this
      · exact hz'
theorem risingC_nodup {l : List α} (h : RisingC c l) : l.Nodup := h.imp fun {a b} hab e => by subst e; rw [ltC_irrefl h3] at hab; cases hab
/-- Sorted, and each once: rising. -/
theorem rising_of_sorted {l : List α} (hs : l.Pairwise fun a b => ¬ c b a < 0) (hn : l.Nodup) : RisingC c l :=
  (hs.and hn).imp fun {a b} ⟨h1, h2⟩ => by
    simp only [ltC, decide_eq_true_eq]
    have h4 := h3.ne_zero h2
    have := (h3.anti b a).2
    have := h3.anti a b
    omega
theorem cmpLst3 : Cmp3 (cmpLst c) where
  anti := by
    intro a
    induction a with
    | nil => intro b; cases b <;> simp [cmpLst]
    | cons a x ih =>
      intro b
      cases b with
      | nil => simp [cmpLst]
      | cons b y =>
        rw [cmpLst, cmpLst]
        by_cases h : a = b
        · subst h; simp [h3.self, ih y]
        · rw [if_pos (h3.ne_zero h), if_pos (h3.ne_zero (Ne.symm h))]; exact h3.anti a b
  zero := by
    intro a
    induction a with
    | nil => intro b; cases b <;> simp [cmpLst]
    | cons a x ih =>
      intro b
      cases b with
      | nil => simp [cmpLst]
      | cons b y =>
        rw [cmpLst]
        by_cases h : a = b
        · subst h; simp [h3.self, ih y]
        · rw [if_pos (h3.ne_zero h)]
          simp [h, h3.ne_zero h]
  trans := by
    intro a
    induction a with
    | nil =>
      intro b d h k
      cases d with
      | nil => cases b <;> simp [cmpLst] at h k
      | cons d z => simp [cmpLst]
    | cons a x ih =>
      intro b d h k
      cases b with
      | nil => simp [cmpLst] at h
      | cons b y =>
        cases d with
        | nil => simp [cmpLst] at k
        | cons d z =>
          rw [cmpLst] at h k ⊢
          by_cases h1 : a = b
          · subst h1
            rw [if_neg (by simp [h3.self])] at h
            by_cases h2 : a = d
            · subst h2
              rw [if_neg (by simp [h3.self])] at k ⊢
              exact ih y z h k
            · rw [if_pos (h3.ne_zero h2)] at k ⊢
              exact k
          · rw [if_pos (h3.ne_zero h1)] at h
            by_cases h2 : b = d
            · subst h2
              rw [if_pos (h3.ne_zero h1)]
              exact h
            · rw [if_pos (h3.ne_zero h2)] at k
              have h4 := h3.trans a b d h k
              rw [if_pos (by omega)]
              exact h4
end

/-! ### Binds. -/
def cmpBind (a b : PBind) : Int := orInt [cmpStr a.var b.var, cmpStr a.name b.name]
theorem cmpBind_eq (a b : PBind) : cmpBind a b = if cmpStr a.var b.var ≠ 0 then cmpStr a.var b.var else cmpStr a.name b.name := by
  unfold cmpBind
  simp only [orInt]
  split
  · rfl
  · split
    · rfl
    · rename_i h; simp at h; exact h.symm
theorem cmpBind3 : Cmp3 cmpBind where
  anti a b := by
    rw [cmpBind_eq, cmpBind_eq]
    by_cases h : a.var = b.var
    · rw [h, if_neg (by simp [cmpStr3.self]), if_neg (by simp [cmpStr3.self])]; exact cmpStr3.anti _ _
    · rw [if_pos (cmpStr3.ne_zero h), if_pos (cmpStr3.ne_zero (Ne.symm h))]; exact cmpStr3.anti _ _
  zero a b := by
    rw [cmpBind_eq]
    obtain ⟨av, an⟩ := a
    obtain ⟨bv, bn⟩ := b
    by_cases h : av = bv
    · subst h; simp [cmpStr3.self, cmpStr3.zero]
    · rw [if_pos (cmpStr3.ne_zero h)]; simp [h, cmpStr3.ne_zero h]
  trans a b d h k := by
    rw [cmpBind_eq] at *
    by_cases h1 : a.var = b.var
    · rw [h1, if_neg (by simp [cmpStr3.self])] at h
      rw [h1]
      by_cases h2 : b.var = d.var
      · rw [h2, if_neg (by simp [cmpStr3.self])] at k ⊢
        exact cmpStr3.trans _ _ _ h k
      · rw [if_pos (cmpStr3.ne_zero h2)] at k ⊢
        exact k
    · rw [if_pos (cmpStr3.ne_zero h1)] at h
      by_cases h2 : b.var = d.var
      · rw [← h2, if_pos (cmpStr3.ne_zero h1)]; exact h
      · rw [if_pos (cmpStr3.ne_zero h2)] at k
        have h4 := cmpStr3.trans _ _ _ h k
        rw [if_pos (by omega)]; exact h4
abbrev Binds := List PBind
def cmpBinds : Binds → Binds → Int := cmpLst cmpBind
theorem cmpBinds3 : Cmp3 cmpBinds := cmpLst3 cmpBind3

def getB (v : Str) : Binds → Option Str
  | [] => none
  | b :: l => if b.var = v then some b.name else getB v l
def valT (l : Binds) (t : PTerm) : Option Str := if t.var then getB t.name l else some t.name
def fillArgs (l : Binds) : List PTerm → Option (List Str)
  | [] => some []
  | t :: ts => match valT l t with
    | none => none
    | some n => (fillArgs l ts).map (n :: ·)
def fillP (a : PAtom) (l : Binds) : Option PFact := (fillArgs l a.terms).map fun x => ⟨a.name, x⟩
def meetL : Binds → List PTerm → List Str → Option Binds
  | l, [], _ => some l
  | _, _ :: _, [] => none
  | l, t :: ts, n :: ns => match valT l t with
    | none => meetL (l ++ [⟨t.name, n⟩]) ts ns
    | some m => if m = n then meetL l ts ns else none
def meetP (a : PAtom) (f : PFact) (l : Binds) : Option Binds := if a.name = f.name ∧ a.terms.length = f.args.length then meetL l a.terms f.args else none
def stepP (ls : List Binds) (a : PAtom) (fs : List PFact) : List Binds := ls.flatMap fun l => fs.filterMap fun f => meetP a f l
def goP (pick : Nat → List PFact) : Nat → List Binds → List PAtom → Option (List Binds)
  | _, ls, [] => some ls
  | i, ls, a :: b => if a.neg then goP pick (i + 1) ls b else if 20000 < (stepP ls a (pick i)).length then none else goP pick (i + 1) (stepP ls a (pick i)) b
def hitP (a : PAtom) (fs : List PFact) (l : Binds) : Bool := match fillP a l with
  | none => false
  | some f => memF f fs
def notP (pick : Nat → List PFact) : Nat → List Binds → List PAtom → List Binds
  | _, ls, [] => ls
  | i, ls, a :: b => notP pick (i + 1) (if a.neg then ls.filter (fun l => !hitP a (pick i) l) else ls) b
def tidyP (ls : List Binds) : List Binds := ofC cmpBinds (ls.map (ofC cmpBind))

def Vs (l : Binds) : List Str := l.map (·.var)
def Nd (l : Binds) : Prop := (Vs l).Nodup

theorem getB_none {v : Str} : ∀ {l : Binds}, getB v l = none ↔ v ∉ Vs l
  | [] => by simp [getB, Vs]
  | b :: l => by
    have ih := getB_none (v := v) (l := l)
    unfold getB
    by_cases h : b.var = v
    · simp [h, Vs]
    · rw [if_neg h, ih]
      simp [Vs, Ne.symm h]
theorem getB_mem {v n : Str} : ∀ {l : Binds}, getB v l = some n → ⟨v, n⟩ ∈ l
  | [], h => by simp [getB] at h
  | b :: l, h => by
    unfold getB at h
    by_cases hv : b.var = v
    · rw [if_pos hv] at h
      obtain ⟨bv, bn⟩ := b
      simp only [Option.some.injEq] at h hv
      subst h; subst hv; simp
    · rw [if_neg hv] at h
      exact List.mem_cons_of_mem _ (getB_mem h)
theorem getB_of_mem {v n : Str} : ∀ {l : Binds}, Nd l → ⟨v, n⟩ ∈ l → getB v l = some n
  | [], _, h => by simp at h
  | b :: l, hn, h => by
    have hn' : (b.var :: Vs l).Nodup := hn
    rw [List.nodup_cons] at hn'
    unfold getB
    rcases List.mem_cons.1 h with rfl | h
    · simp
    · have : b.var ≠ v := fun e => hn'.1 (by rw [e]; exact List.mem_map.2 ⟨_, h, rfl⟩)
      rw [if_neg this]
      exact getB_of_mem hn'.2 h
theorem getB_append {v : Str} {m : Binds} : ∀ {l : Binds}, getB v (l ++ m) = (getB v l).or (getB v m)
  | [] => by simp [getB]
  | b :: l => by
    rw [List.cons_append, getB, getB]
    by_cases h : b.var = v
    · simp [h]
    · rw [if_neg h, if_neg h]; exact getB_append
theorem getB_same {l m : Binds} (hl : Nd l) (hm : Nd m) (h : ∀ x, x ∈ l ↔ x ∈ m) (v : Str) : getB v l = getB v m := by
  cases hg : getB v l with
  | some n => exact (getB_of_mem hm ((h _).1 (getB_mem hg))).symm
  | none =>
    cases hk : getB v m with
    | none => rfl
    | some n => rw [getB_of_mem hl ((h _).2 (getB_mem hk))] at hg; cases hg

/-- What l says e says. -/
def Sub (l e : Binds) : Prop := ∀ v n, getB v l = some n → getB v e = some n
theorem Sub.append {l m : Binds} : Sub l (l ++ m) := fun v n h => by rw [getB_append, h]; rfl
theorem Sub.trans {l m e : Binds} (h : Sub l m) (k : Sub m e) : Sub l e := fun v n hv => k v n (h v n hv)
theorem Sub.valT {l e : Binds} (h : Sub l e) {t : PTerm} {n : Str} (hv : valT l t = some n) : valT e t = some n := by
  unfold Go.Proofs.Ytmnpneandkiblaa.valT at *
  cases ht : t.var
  · simpa [ht] using hv
  · rw [ht] at hv; simp only [if_true] at hv ⊢; exact h _ _ hv
theorem Sub.fillArgs {l e : Binds} (h : Sub l e) : ∀ {ts : List PTerm} {ns : List Str}, fillArgs l ts = some ns → fillArgs e ts = some ns
  | [], ns, hv => hv
  | t :: ts, ns, hv => by
    unfold Go.Proofs.Ytmnpneandkiblaa.fillArgs at hv ⊢
    cases ht : Go.Proofs.Ytmnpneandkiblaa.valT l t with
    | none => rw [ht] at hv; cases hv
    | some n =>
      rw [ht] at hv
      rw [h.valT ht]
      dsimp only at hv ⊢
      cases hr : Go.Proofs.Ytmnpneandkiblaa.fillArgs l ts with
      | none => rw [hr] at hv; cases hv
      | some r => rw [hr] at hv; rw [h.fillArgs hr]; exact hv
theorem Sub.fillP {l e : Binds} (h : Sub l e) {a : PAtom} {f : PFact} (hf : fillP a l = some f) : fillP a e = some f := by
  unfold Go.Proofs.Ytmnpneandkiblaa.fillP at *
  cases hr : Go.Proofs.Ytmnpneandkiblaa.fillArgs l a.terms with
  | none => rw [hr] at hf; cases hf
  | some r => rw [hr] at hf; rw [h.fillArgs hr]; exact hf
theorem fillP_name {a : PAtom} {f : PFact} {l : Binds} (h : fillP a l = some f) : a.name = f.name ∧ fillArgs l a.terms = some f.args := by
  unfold fillP at h
  cases hr : fillArgs l a.terms with
  | none => rw [hr] at h; cases h
  | some r => rw [hr] at h; obtain rfl := Option.some.inj h; exact ⟨rfl, rfl⟩
theorem fillArgs_len {l : Binds} : ∀ {ts : List PTerm} {ns : List Str}, fillArgs l ts = some ns → ts.length = ns.length
  | [], ns, h => by obtain rfl := Option.some.inj h; rfl
  | t :: ts, ns, h => by
    unfold fillArgs at h
    cases hv : valT l t with
    | none => rw [hv] at h; cases h
    | some n =>
      rw [hv] at h
      dsimp only at h
      cases hr : fillArgs l ts with
      | none => rw [hr] at h; cases h
      | some r =>
        rw [hr] at h
        obtain rfl := Option.some.inj h
        simp [fillArgs_len hr]
/-- An atom all of whose variables stand for something is filled. -/
theorem fillArgs_some {l : Binds} : ∀ {ts : List PTerm}, (∀ t ∈ ts, t.var = true → t.name ∈ Vs l) → ∃ ns, fillArgs l ts = some ns
  | [], _ => ⟨[], rfl⟩
  | t :: ts, h => by
    obtain ⟨ns, hns⟩ := fillArgs_some (ts := ts) fun u hu => h u (by simp [hu])
    have : ∃ n, valT l t = some n := by
      unfold valT
      cases ht : t.var
      · exact ⟨t.name, by simp⟩
      · have := h t (by simp) ht
        cases hg : getB t.name l with
        | none => exact absurd this (getB_none.1 hg)
        | some n => exact ⟨n, by simp [hg]⟩
    obtain ⟨n, hn⟩ := this
    exact ⟨n :: ns, by unfold fillArgs; rw [hn, hns]; rfl⟩
theorem fillArgs_vars {l : Binds} : ∀ {ts : List PTerm} {ns : List Str}, fillArgs l ts = some ns → ∀ t ∈ ts, t.var = true → t.name ∈ Vs l
  | [], _, _, t, ht, _ => by simp at ht
  | u :: ts, ns, h, t, ht, hv => by
    unfold fillArgs at h
    cases hu : valT l u with
    | none => rw [hu] at h; cases h
    | some n =>
      rw [hu] at h
      dsimp only at h
      cases hr : fillArgs l ts with
      | none => rw [hr] at h; cases h
      | some r =>
        rcases List.mem_cons.1 ht with rfl | ht
        · unfold valT at hu
          rw [if_pos hv] at hu
          exact List.mem_map.2 ⟨_, getB_mem hu, rfl⟩
        · exact fillArgs_vars hr t ht hv

theorem nd_snoc {l : Binds} (h : Nd l) {v n : Str} (hv : v ∉ Vs l) : Nd (l ++ [⟨v, n⟩]) := by
  show (Vs (l ++ [⟨v, n⟩])).Nodup
  unfold Vs
  rw [List.map_append]
  refine List.nodup_append.2 ⟨h, by simp, ?_⟩
  intro a ha b hb e
  simp only [List.map_cons, List.map_nil, List.mem_singleton] at hb
  subst hb; subst e
  exact hv ha
theorem meetL_spec : ∀ (ts : List PTerm) (ns : List Str) (l m : Binds), ts.length = ns.length → Nd l → meetL l ts ns = some m →
    Nd m ∧ Sub l m ∧ fillArgs m ts = some ns ∧ ∀ v, v ∈ Vs m ↔ v ∈ Vs l ∨ ∃ t ∈ ts, t.var = true ∧ t.name = v
  | [], ns, l, m, hl, hn, h => by
    obtain rfl : l = m := Option.some.inj h
    obtain rfl : ns = [] := List.length_eq_zero_iff.1 hl.symm
    exact ⟨hn, fun v n h => h, rfl, by simp⟩
  | t :: ts, [], l, m, hl, hn, h => by simp at hl
  | t :: ts, n :: ns, l, m, hl, hn, h => by
    have hl' : ts.length = ns.length := by simpa using hl
    unfold meetL at h
    cases hv : valT l t with
    | none =>
      rw [hv] at h
      dsimp only at h
      have htv : t.var = true := by unfold valT at hv; cases ht : t.var <;> simp [ht] at hv ⊢
      have hnew : t.name ∉ Vs l := by unfold valT at hv; rw [if_pos htv] at hv; exact getB_none.1 hv
      obtain ⟨h1, h2, h4, h5⟩ := meetL_spec ts ns _ m hl' (nd_snoc hn hnew) h
      have hval : valT m t = some n := by
        unfold valT
        rw [if_pos htv]
        exact h2 _ _ (getB_of_mem (nd_snoc hn hnew) (by simp))
      refine ⟨h1, Sub.append.trans h2, ?_, fun v => ?_⟩
      · unfold fillArgs; rw [hval, h4]; rfl
      · rw [h5]
        have e : v ∈ Vs (l ++ [⟨t.name, n⟩]) ↔ v ∈ Vs l ∨ v = t.name := by simp [Vs]
        rw [e]
        constructor
        · rintro ((k | k) | ⟨u, hu, k⟩)
          · exact .inl k
          · exact .inr ⟨t, by simp, htv, k.symm⟩
          · exact .inr ⟨u, by simp [hu], k⟩
        · rintro (k | ⟨u, hu, k⟩)
          · exact .inl (.inl k)
          · rcases List.mem_cons.1 hu with e2 | hu
            · rw [e2] at k; exact .inl (.inr k.2.symm)
            · exact .inr ⟨u, hu, k⟩
    | some k =>
      rw [hv] at h
      dsimp only at h
      by_cases hk : k = n
      · subst hk
        rw [if_pos rfl] at h
        obtain ⟨h1, h2, h4, h5⟩ := meetL_spec ts ns l m hl' hn h
        refine ⟨h1, h2, ?_, fun v => ?_⟩
        · unfold fillArgs; rw [h2.valT hv, h4]; rfl
        · rw [h5]
          constructor
          · rintro (h | ⟨u, hu, h⟩)
            · exact .inl h
            · exact .inr ⟨u, by simp [hu], h⟩
          · rintro (h | ⟨u, hu, h⟩)
            · exact .inl h
            · rcases List.mem_cons.1 hu with rfl | hu
              · left
                unfold valT at hv
                rw [if_pos h.1] at hv
                rw [← h.2]
                exact List.mem_map.2 ⟨_, getB_mem hv, rfl⟩
              · exact .inr ⟨u, hu, h⟩
      · rw [if_neg hk] at h; cases h
theorem meetL_full : ∀ (ts : List PTerm) (ns : List Str) (l e : Binds), fillArgs e ts = some ns → Sub l e → ∃ m, meetL l ts ns = some m ∧ Sub m e
  | [], ns, l, e, h, hs => ⟨l, rfl, hs⟩
  | t :: ts, ns, l, e, h, hs => by
    unfold fillArgs at h
    cases hv : valT e t with
    | none => rw [hv] at h; cases h
    | some n =>
      rw [hv] at h
      dsimp only at h
      cases hr : fillArgs e ts with
      | none => rw [hr] at h; cases h
      | some r =>
        rw [hr] at h
        obtain rfl : n :: r = ns := Option.some.inj h
        unfold meetL
        cases hl : valT l t with
        | some k =>
          have := hs.valT hl
          rw [hv] at this
          obtain rfl := Option.some.inj this
          dsimp only
          rw [if_pos rfl]
          exact meetL_full ts r l e hr hs
        | none =>
          dsimp only
          have htv : t.var = true := by unfold valT at hl; cases ht : t.var <;> simp [ht] at hl ⊢
          refine meetL_full ts r _ e hr fun v m hm => ?_
          rw [getB_append] at hm
          cases hg : getB v l with
          | some k => rw [hg] at hm; exact hs v m (by rw [hg]; exact hm)
          | none =>
            rw [hg] at hm
            simp only [Option.none_or, getB] at hm
            by_cases e1 : t.name = v
            · rw [if_pos e1] at hm
              obtain rfl := Option.some.inj hm
              subst e1
              unfold valT at hv
              rwa [if_pos htv] at hv
            · rw [if_neg e1] at hm; cases hm
end Go.Proofs.Ytmnpneandkiblaa
