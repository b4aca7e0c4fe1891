/-
  PLAIN: of a right body, what is told is just what it is so of.
-/
import Derived.Test.YtmnpneandkiblaaMatchP
namespace Go.Proofs.Ytmnpneandkiblaa

theorem mem_varsF (v : Str) : ∀ (l : List PTerm) (acc : List Str), v ∈ varsF acc l ↔ v ∈ acc ∨ ∃ t ∈ l, t.var = true ∧ t.name = v
  | [], acc => by simp [varsF]
  | t :: l, acc => by
    rw [varsF, mem_varsF v l]
    have h : v ∈ (if t.var && !memS t.name acc then acc ++ [t.name] else acc) ↔ v ∈ acc ∨ (t.var = true ∧ t.name = v) := by
      by_cases ht : t.var = true
      · by_cases hm : memS t.name acc = true
        · rw [if_neg (by simp [hm])]
          constructor
          · exact .inl
          · rintro (h | ⟨-, rfl⟩)
            · exact h
            · exact (memS_iff _ _).1 hm
        · rw [if_pos (by simp [ht, hm])]
          simp only [List.mem_append, List.mem_singleton]
          constructor
          · rintro (h | h)
            · exact .inl h
            · exact .inr ⟨ht, h.symm⟩
          · rintro (h | ⟨-, h⟩)
            · exact .inl h
            · exact .inr h.symm
      · rw [if_neg (by simp [ht])]
        constructor
        · exact .inl
        · rintro (h | ⟨h, -⟩)
          · exact h
          · exact absurd h ht
    rw [h]
    constructor
    · rintro ((h | h) | ⟨u, hu, h⟩)
      · exact .inl h
      · exact .inr ⟨t, by simp, h⟩
      · exact .inr ⟨u, by simp [hu], h⟩
    · rintro (k | ⟨u, hu, k⟩)
      · exact .inl (.inl k)
      · rcases List.mem_cons.1 hu with e | hu
        · rw [e] at k; exact .inl (.inr k)
        · exact .inr ⟨u, hu, k⟩
theorem mem_varsOf (v : Str) (a : PAtom) : v ∈ varsOf a ↔ ∃ t ∈ a.terms, t.var = true ∧ t.name = v := by
  unfold varsOf; rw [mem_varsF]; simp
theorem mem_heldOf (v : Str) (l : List PAtom) : v ∈ heldOf l ↔ ∃ a ∈ l, a.neg = false ∧ v ∈ varsOf a := by
  unfold heldOf
  rw [List.mem_flatMap]
  constructor
  · rintro ⟨a, ha, h⟩
    cases hn : a.neg
    · rw [hn] at h; exact ⟨a, ha, hn, by simpa using h⟩
    · rw [hn] at h; simp at h
  · rintro ⟨a, ha, hn, h⟩
    exact ⟨a, ha, by rw [hn]; simpa using h⟩
theorem body_free {l : List PAtom} (h : bodyBad l = 0) {a : PAtom} (ha : a ∈ l) {v : Str} (hv : v ∈ varsOf a) : v ∈ heldOf l := by
  unfold bodyBad at h
  split at h
  · exact absurd h (by decide)
  · split at h
    · rename_i h1; exact absurd h h1
    · split at h
      · rename_i h1
        unfold freeIn at h1
        rw [List.all_eq_true] at h1
        have := h1 a ha
        rw [List.all_eq_true] at this
        exact (memS_iff _ _).1 (this v hv)
      · exact absurd h (by decide)
theorem body_atoms {l : List PAtom} (h : bodyBad l = 0) : l.length ≤ 5 := by
  unfold bodyBad at h
  split at h
  · exact absurd h (by decide)
  · omega

section
variable {pick : Nat → List PFact}
theorem mem_stepP {ls : List Binds} {a : PAtom} {fs : List PFact} {m : Binds} : m ∈ stepP ls a fs ↔ ∃ l ∈ ls, ∃ f ∈ fs, meetP a f l = some m := by
  unfold stepP
  simp [List.mem_flatMap, List.mem_filterMap]
theorem goP_sound : ∀ (body : List PAtom) (i : Nat) (ls out : List Binds), goP pick i ls body = some out → (∀ l ∈ ls, Nd l) →
    ∀ m ∈ out, ∃ l ∈ ls, Nd m ∧ Sub l m ∧ (∀ v, v ∈ Vs m ↔ v ∈ Vs l ∨ ∃ a ∈ body, a.neg = false ∧ v ∈ varsOf a) ∧
      ∀ j a, body[j]? = some a → a.neg = false → ∃ f, fillP a m = some f ∧ f ∈ pick (i + j)
  | [], i, ls, out, h, hn, m, hm => by
    obtain rfl := Option.some.inj h
    exact ⟨m, hm, hn m hm, fun v n h => h, by simp, by simp⟩
  | a :: b, i, ls, out, h, hn, m, hm => by
    unfold goP at h
    cases hneg : a.neg
    · rw [if_neg (by simp [hneg])] at h
      split at h
      · cases h
      · have hn1 : ∀ l ∈ stepP ls a (pick i), Nd l := fun l hl => by
          obtain ⟨l0, h0, f, hf, hm⟩ := mem_stepP.1 hl
          unfold meetP at hm
          split at hm
          · rename_i hc; exact (meetL_spec _ _ _ _ hc.2 (hn l0 h0) hm).1
          · cases hm
        obtain ⟨l1, hl1, g1, g2, g3, g4⟩ := goP_sound b (i + 1) _ out h hn1 m hm
        obtain ⟨l0, h0, f, hf, hmt⟩ := mem_stepP.1 hl1
        unfold meetP at hmt
        split at hmt
        · rename_i hc
          obtain ⟨k1, k2, k3, k4⟩ := meetL_spec _ _ _ _ hc.2 (hn l0 h0) hmt
          refine ⟨l0, h0, g1, k2.trans g2, fun v => ?_, fun j x hx hxn => ?_⟩
          · rw [g3, k4]
            constructor
            · rintro ((h | h) | ⟨x, hx, h⟩)
              · exact .inl h
              · exact .inr ⟨a, by simp, hneg, (mem_varsOf v a).2 h⟩
              · exact .inr ⟨x, by simp [hx], h⟩
            · rintro (h | ⟨x, hx, h⟩)
              · exact .inl (.inl h)
              · rcases List.mem_cons.1 hx with e | hx
                · rw [e] at h; exact .inl (.inr ((mem_varsOf v a).1 h.2))
                · exact .inr ⟨x, hx, h⟩
          · cases j with
            | zero =>
              obtain rfl : a = x := by simpa using hx
              refine ⟨f, ?_, hf⟩
              refine g2.fillP ?_
              unfold fillP
              rw [k3, hc.1]
              rfl
            | succ j =>
              obtain ⟨f', h1, h2⟩ := g4 j x (by simpa using hx) hxn
              exact ⟨f', h1, by rw [show i + (j + 1) = i + 1 + j by omega]; exact h2⟩
        · cases hmt
    · rw [if_pos (by simp [hneg])] at h
      obtain ⟨l1, hl1, g1, g2, g3, g4⟩ := goP_sound b (i + 1) ls out h hn m hm
      refine ⟨l1, hl1, g1, g2, fun v => ?_, fun j x hx hxn => ?_⟩
      · rw [g3]
        constructor
        · rintro (h | ⟨x, hx, h⟩)
          · exact .inl h
          · exact .inr ⟨x, by simp [hx], h⟩
        · rintro (h | ⟨x, hx, h⟩)
          · exact .inl h
          · rcases List.mem_cons.1 hx with e | hx
            · rw [e, hneg] at h; cases h.1
            · exact .inr ⟨x, hx, h⟩
      · cases j with
        | zero =>
          obtain rfl : a = x := by simpa using hx
          rw [hneg] at hxn; cases hxn
        | succ j =>
          obtain ⟨f', h1, h2⟩ := g4 j x (by simpa using hx) hxn
          exact ⟨f', h1, by rw [show i + (j + 1) = i + 1 + j by omega]; exact h2⟩
theorem goP_full : ∀ (body : List PAtom) (i : Nat) (ls out : List Binds) (e : Binds), goP pick i ls body = some out →
    (∀ j a, body[j]? = some a → a.neg = false → ∃ f, fillP a e = some f ∧ f ∈ pick (i + j)) → (∃ l ∈ ls, Sub l e) → ∃ m ∈ out, Sub m e
  | [], i, ls, out, e, h, _, hs => by obtain rfl := Option.some.inj h; exact hs
  | a :: b, i, ls, out, e, h, hf, ⟨l, hl, hs⟩ => by
    have hf' : ∀ j x, b[j]? = some x → x.neg = false → ∃ f, fillP x e = some f ∧ f ∈ pick (i + 1 + j) := fun j x hx hn => by
      obtain ⟨f, h1, h2⟩ := hf (j + 1) x (by simpa using hx) hn
      exact ⟨f, h1, by rw [show i + 1 + j = i + (j + 1) by omega]; exact h2⟩
    unfold goP at h
    cases hneg : a.neg
    · rw [if_neg (by simp [hneg])] at h
      split at h
      · cases h
      · refine goP_full b (i + 1) _ out e h hf' ?_
        obtain ⟨f, h1, h2⟩ := hf 0 a rfl hneg
        obtain ⟨k1, k2⟩ := fillP_name h1
        obtain ⟨m, hm, hsm⟩ := meetL_full a.terms f.args l e k2 hs
        refine ⟨m, mem_stepP.2 ⟨l, hl, f, h2, ?_⟩, hsm⟩
        unfold meetP
        rw [if_pos ⟨k1, fillArgs_len k2⟩]
        exact hm
    · rw [if_pos (by simp [hneg])] at h
      exact goP_full b (i + 1) ls out e h hf' ⟨l, hl, hs⟩
theorem mem_notP : ∀ (body : List PAtom) (i : Nat) (ls : List Binds) (l : Binds), l ∈ notP pick i ls body ↔ l ∈ ls ∧ ∀ j a, body[j]? = some a → a.neg = true → hitP a (pick (i + j)) l = false
  | [], i, ls, l => by simp [notP]
  | a :: b, i, ls, l => by
    unfold notP
    rw [mem_notP b]
    cases hneg : a.neg
    · rw [if_neg (by simp)]
      constructor
      · rintro ⟨h1, h2⟩
        refine ⟨h1, fun j x hx hn => ?_⟩
        cases j with
        | zero => obtain rfl : a = x := by simpa using hx
                  rw [hneg] at hn; cases hn
        | succ j => rw [show i + (j + 1) = i + 1 + j by omega]; exact h2 j x (by simpa using hx) hn
      · rintro ⟨h1, h2⟩
        exact ⟨h1, fun j x hx hn => by rw [show i + 1 + j = i + (j + 1) by omega]; exact h2 (j + 1) x (by simpa using hx) hn⟩
    · rw [if_pos rfl]
      simp only [List.mem_filter, Bool.not_eq_true']
      constructor
      · rintro ⟨⟨h1, h3⟩, h2⟩
        refine ⟨h1, fun j x hx hn => ?_⟩
        cases j with
        | zero => obtain rfl : a = x := by simpa using hx
                  exact h3
        | succ j => rw [show i + (j + 1) = i + 1 + j by omega]; exact h2 j x (by simpa using hx) hn
      · rintro ⟨h1, h2⟩
        exact ⟨⟨h1, h2 0 a rfl hneg⟩, fun j x hx hn => by rw [show i + 1 + j = i + (j + 1) by omega]; exact h2 (j + 1) x (by simpa using hx) hn⟩
end

theorem fillP_same {l m : Binds} (h : ∀ v, getB v l = getB v m) (a : PAtom) : fillP a l = fillP a m := by
  have hv : ∀ t, valT l t = valT m t := fun t => by unfold valT; rw [h]
  have : ∀ ts, fillArgs l ts = fillArgs m ts := fun ts => by
    induction ts with
    | nil => rfl
    | cons t ts ih => unfold fillArgs; rw [hv, ih]
  unfold fillP
  rw [this]
theorem nd_inj {l : Binds} (h : Nd l) {a b : PBind} (ha : a ∈ l) (hb : b ∈ l) (hv : a.var = b.var) : a = b := by
  have h1 := getB_of_mem h (v := a.var) (n := a.name) ha
  have h2 := getB_of_mem h (v := b.var) (n := b.name) hb
  rw [hv, h2] at h1
  obtain ⟨av, an⟩ := a
  obtain ⟨bv, bn⟩ := b
  simp only [Option.some.injEq] at h1 hv
  rw [h1, hv]
theorem nd_ofC {l : Binds} (h : Nd l) : Nd (ofC cmpBind l) := by
  show (List.map _ _).Nodup
  unfold List.Nodup
  rw [List.pairwise_map]
  refine (risingC_nodup cmpBind3 (ofC_rising cmpBind3 l)).imp_of_mem fun {a b} ha hb hne hv => hne ?_
  exact nd_inj h ((mem_ofC cmpBind3 _ _).1 ha) ((mem_ofC cmpBind3 _ _).1 hb) hv
theorem getB_ofC {l : Binds} (h : Nd l) (v : Str) : getB v (ofC cmpBind l) = getB v l := getB_same (nd_ofC h) h (fun x => mem_ofC cmpBind3 x l) v
theorem vs_ofC {l : Binds} (v : Str) : v ∈ Vs (ofC cmpBind l) ↔ v ∈ Vs l := by
  unfold Vs
  simp only [List.mem_map, mem_ofC cmpBind3]
theorem length_addC {α : Type} [DecidableEq α] {c : α → α → Int} (f : α) : ∀ l : List α, f ∉ l → (addC c f l).length = l.length + 1
  | [], _ => rfl
  | g :: l, h => by
    unfold addC
    split
    · rfl
    · rw [if_neg (fun e => h (by simp [e]))]
      rw [List.length_cons, length_addC f l (fun hm => h (by simp [hm])), List.length_cons]
theorem length_ofC {α : Type} [DecidableEq α] {c : α → α → Int} (h3 : Cmp3 c) : ∀ l : List α, l.Nodup → (ofC c l).length = l.length
  | [], _ => rfl
  | f :: l, h => by
    rw [List.nodup_cons] at h
    show (addC c f (ofC c l)).length = _
    rw [length_addC f _ (fun hm => h.1 ((mem_ofC h3 _ _).1 hm)), length_ofC h3 l h.2, List.length_cons]
theorem nd_nodup {l : Binds} (h : Nd l) : l.Nodup := by
  have h' : (l.map (·.var)).Pairwise (· ≠ ·) := h
  rw [List.pairwise_map] at h'
  exact h'.imp fun hne e => hne (by rw [e])

/-- With m all of a body is so. -/
def Told (pick : Nat → List PFact) (body : List PAtom) (m : Binds) : Prop :=
  RisingC cmpBind m ∧ Nd m ∧ (∀ v, v ∈ Vs m ↔ ∃ a ∈ body, v ∈ varsOf a) ∧ ∀ j a, body[j]? = some a → ∃ f, fillP a m = some f ∧ memF f (pick j) = !a.neg

theorem mem_tidyP {ls : List Binds} {m : Binds} : m ∈ tidyP ls ↔ ∃ l ∈ ls, ofC cmpBind l = m := by
  unfold tidyP
  rw [mem_ofC cmpBinds3, List.mem_map]
theorem tidyP_rising (ls : List Binds) : RisingC cmpBinds (tidyP ls) := ofC_rising cmpBinds3 _

theorem told_iff {pick : Nat → List PFact} {body : List PAtom} {ls : List Binds} (hb : bodyBad body = 0) (hg : goP pick 0 [[]] body = some ls) (m : Binds) :
    m ∈ tidyP (notP pick 0 ls body) ↔ Told pick body m := by
  have hvars : ∀ v, (∃ a ∈ body, a.neg = false ∧ v ∈ varsOf a) ↔ ∃ a ∈ body, v ∈ varsOf a := fun v => by
    constructor
    · rintro ⟨a, ha, -, h⟩; exact ⟨a, ha, h⟩
    · rintro ⟨a, ha, h⟩; exact (mem_heldOf v body).1 (body_free hb ha h)
  have hnd : ∀ l ∈ [([] : Binds)], Nd l := fun l hl => by
    obtain rfl := List.mem_singleton.1 hl
    exact List.Pairwise.nil
  rw [mem_tidyP]
  constructor
  · rintro ⟨l, hl, rfl⟩
    obtain ⟨h1, h2⟩ := (mem_notP body 0 ls l).1 hl
    obtain ⟨l0, h0, g1, -, g3, g4⟩ := goP_sound body 0 _ _ hg hnd l h1
    obtain rfl := List.mem_singleton.1 h0
    have hV : ∀ v, v ∈ Vs l ↔ ∃ a ∈ body, v ∈ varsOf a := fun v => by
      rw [g3, hvars]
      constructor
      · rintro (h | h)
        · simp [Vs] at h
        · exact h
      · exact .inr
    refine ⟨ofC_rising cmpBind3 l, nd_ofC g1, fun v => (vs_ofC v).trans (hV v), fun j a ha => ?_⟩
    rw [fillP_same (getB_ofC g1)]
    cases hn : a.neg
    · obtain ⟨f, k1, k2⟩ := g4 j a ha hn
      exact ⟨f, k1, by rw [(memF_iff _ _).2 (by simpa using k2)]; rfl⟩
    · have hm := List.mem_of_getElem? ha
      obtain ⟨ns, hns⟩ := fillArgs_some (l := l) (ts := a.terms) fun t ht hv => (hV _).2 ⟨a, hm, (mem_varsOf _ a).2 ⟨t, ht, hv, rfl⟩⟩
      have hf : fillP a l = some ⟨a.name, ns⟩ := by unfold fillP; rw [hns]; rfl
      refine ⟨_, hf, ?_⟩
      have := h2 j a ha hn
      unfold hitP at this
      rw [hf] at this
      simpa using this
  · rintro ⟨h1, h2, h3, h4⟩
    obtain ⟨l, hl, hs⟩ := goP_full body 0 _ _ m hg (fun j a ha hn => by
      obtain ⟨f, k1, k2⟩ := h4 j a ha
      rw [hn] at k2
      exact ⟨f, k1, by simpa using (memF_iff _ _).1 k2⟩) ⟨[], by simp, fun v n h => by simp [getB] at h⟩
    obtain ⟨l0, h0, g1, -, g3, g4⟩ := goP_sound body 0 _ _ hg hnd l hl
    obtain rfl := List.mem_singleton.1 h0
    have hV : ∀ v, v ∈ Vs l ↔ v ∈ Vs m := fun v => by
      rw [g3, hvars, h3]
      constructor
      · rintro (h | h)
        · simp [Vs] at h
        · exact h
      · exact .inr
    have hmem : ∀ x, x ∈ l ↔ x ∈ m := fun x => by
      constructor
      · intro hx
        exact getB_mem (hs _ _ (getB_of_mem g1 (v := x.var) (n := x.name) hx))
      · intro hx
        have hv : x.var ∈ Vs l := (hV _).2 (List.mem_map.2 ⟨x, hx, rfl⟩)
        cases hg : getB x.var l with
        | none => exact absurd hv (getB_none.1 hg)
        | some n =>
          have k1 := hs _ _ hg
          rw [getB_of_mem h2 (v := x.var) (n := x.name) hx] at k1
          obtain rfl := Option.some.inj k1
          exact getB_mem hg
    refine ⟨l, (mem_notP body 0 ls l).2 ⟨hl, fun j a ha hn => ?_⟩, risingC_ext cmpBind3 (ofC_rising cmpBind3 l) h1 fun x => (mem_ofC cmpBind3 x l).trans (hmem x)⟩
    obtain ⟨f, k1, k2⟩ := h4 j a ha
    unfold hitP
    rw [fillP_same (fun v => getB_same g1 h2 hmem v), k1]
    simpa [hn] using k2
end Go.Proofs.Ytmnpneandkiblaa
