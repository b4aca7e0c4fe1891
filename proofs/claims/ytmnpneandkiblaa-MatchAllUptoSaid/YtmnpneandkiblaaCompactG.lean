/-
  PLAIN: neighbours that are the same fall together; a store of an element into a row of one's own; clear of its end.
-/
import Derived.Test.YtmnpneandkiblaaOwn
import Derived.Test.YtmnpneandkiblaaFactP
namespace Go.Proofs.Ytmnpneandkiblaa
open Go.RowKit

section
variable {α : Type} [DecidableEq α]
def snocC (acc : List α) (x : α) : List α := if acc.getLast? = some x then acc else acc ++ [x]
def compactL (l : List α) : List α := l.foldl snocC []
theorem compactL_snoc (l : List α) (x : α) : compactL (l ++ [x]) = snocC (compactL l) x := by simp [compactL, List.foldl_append]
theorem compactL_take_succ {l : List α} {n : Nat} {x : α} (h : l[n]? = some x) : compactL (l.take (n + 1)) = snocC (compactL (l.take n)) x := by
  rw [List.take_add_one, h]; exact compactL_snoc _ _
theorem snocC_last (acc : List α) (x : α) : (snocC acc x).getLast? = some x := by
  unfold snocC
  split
  · assumption
  · simp
theorem compactL_last {l : List α} {n : Nat} {x : α} (h : l[n]? = some x) : (compactL (l.take (n + 1))).getLast? = some x := by
  rw [compactL_take_succ h]; exact snocC_last _ _
theorem compactL_same {l : List α} {n : Nat} {x : α} (h : l[n]? = some x) (k : l[n + 1]? = some x) : compactL (l.take (n + 2)) = compactL (l.take (n + 1)) := by
  rw [compactL_take_succ k, snocC, if_pos (compactL_last h)]
theorem compactL_other {l : List α} {n : Nat} {x y : α} (h : l[n]? = some x) (k : l[n + 1]? = some y) (hne : x ≠ y) : compactL (l.take (n + 2)) = compactL (l.take (n + 1)) ++ [y] := by
  rw [compactL_take_succ k, snocC, if_neg (by rw [compactL_last h]; intro e; exact hne (Option.some.inj e))]
theorem compactL_le (l : List α) : ∀ n, (compactL (l.take n)).length ≤ n
  | 0 => by simp [compactL]
  | n + 1 => by
    have := compactL_le l n
    cases h : l[n]? with
    | none =>
      rw [List.take_add_one, h]
      simp only [Option.toList_none, List.append_nil]
      omega
    | some x =>
      rw [compactL_take_succ h, snocC]
      split
      · omega
      · simp; omega
theorem compactL_apart {l : List α} : ∀ n, n ≤ l.length → (∀ p x y, p + 1 < n → l[p]? = some x → l[p + 1]? = some y → x ≠ y) → compactL (l.take n) = l.take n
  | 0, _, _ => by simp [compactL]
  | 1, hn, _ => by
    obtain ⟨x, hx⟩ : ∃ x, l[0]? = some x := ⟨_, List.getElem?_eq_getElem (by omega)⟩
    rw [compactL_take_succ hx, List.take_add_one, hx]
    simp [compactL, snocC]
  | n + 2, hn, h => by
    obtain ⟨x, hx⟩ : ∃ x, l[n]? = some x := ⟨_, List.getElem?_eq_getElem (by omega)⟩
    obtain ⟨y, hy⟩ : ∃ y, l[n + 1]? = some y := ⟨_, List.getElem?_eq_getElem (by omega)⟩
    rw [compactL_other hx hy (h n x y (by omega) hx hy), compactL_apart (n + 1) (by omega) (fun p a b hp => h p a b (by omega)), List.take_add_one (i := n + 1), hy]
    rfl
theorem mem_compactL (l : List α) (x : α) : ∀ n, x ∈ compactL (l.take n) ↔ x ∈ l.take n
  | 0 => by simp [compactL]
  | n + 1 => by
    cases h : l[n]? with
    | none => rw [List.take_add_one, h]; simpa using mem_compactL l x n
    | some y =>
      rw [compactL_take_succ h, List.take_add_one, h, snocC]
      have ih := mem_compactL l x n
      split
      · rename_i hl
        rw [ih]
        have : y ∈ l.take n := (mem_compactL l y n).1 (List.mem_of_getLast? hl)
        simp only [Option.toList_some, List.mem_append, List.mem_singleton]
        constructor
        · exact .inl
        · rintro (h | rfl)
          · exact h
          · exact this
      · simp [ih]
end

theorem compact_rising {l : List PFact} (hs : l.Pairwise fun a b => ¬ cmpFact b a < 0) : ∀ n, Rising (compactL (l.take n))
  | 0 => by simp [compactL, Rising]
  | n + 1 => by
    cases h : l[n]? with
    | none => rw [List.take_add_one, h]; simpa using compact_rising hs n
    | some y =>
      rw [compactL_take_succ h, snocC]
      have ih := compact_rising hs n
      split
      · exact ih
      · rename_i hl
        refine List.pairwise_append.2 ⟨ih, by simp, fun a ha b hb => ?_⟩
        obtain rfl := List.mem_singleton.1 hb
        have ha' := (mem_compactL l a n).1 ha
        obtain ⟨p, hp⟩ := List.mem_iff_getElem?.1 ha'
        have hpn : p < n := by
          have := (List.getElem?_eq_some_iff.1 hp).1
          rw [List.length_take] at this; omega
        rw [List.getElem?_take_of_lt hpn] at hp
        obtain ⟨h1, rfl⟩ := List.getElem?_eq_some_iff.1 hp
        obtain ⟨h2, rfl⟩ := List.getElem?_eq_some_iff.1 h
        have h3 := List.pairwise_iff_getElem.1 hs p n h1 h2 hpn
        -- the last one kept is the neighbour, which is no other than what lies between
        have hne : l[p] ≠ l[n] := by
          intro e
          apply hl
          obtain ⟨m, rfl⟩ : ∃ m, n = m + 1 := ⟨n - 1, by omega⟩
          have hm : l[m]? = some l[m] := List.getElem?_eq_getElem (by omega)
          rw [compactL_last hm]
          congr 1
          by_cases hpm : p = m
          · subst hpm; exact e
          · have q1 := List.pairwise_iff_getElem.1 hs p m h1 (by omega) (by omega)
            have q2 := List.pairwise_iff_getElem.1 hs m (m + 1) (by omega) h2 (by omega)
            rw [e] at q1
            have := cmpFact3.anti l[m] l[m + 1]
            have := cmpFact3.anti l[m + 1] l[m]
            exact (cmpFact3.zero _ _).1 (by omega)
        simp only [ltF, decide_eq_true_eq]
        have := cmpFact3.ne_zero hne
        have := cmpFact3.anti l[n] l[p]
        omega

/-- fact.Of: what is sorted and compacted is the set. -/
theorem compact_of {l l' : List PFact} (hp : l'.Perm l) (hs : l'.Pairwise fun a b => ¬ cmpFact b a < 0) : compactL l' = ofF l := by
  have h := compact_rising hs l'.length
  rw [List.take_length] at h
  refine rising_ext h (ofF_rising l) fun x => ?_
  have := mem_compactL l' x l'.length
  rw [List.take_length] at this
  rw [this, hp.mem_iff, mem_ofF]

theorem flatten_set2 : ∀ (css : List (List Value)), (∀ cs ∈ css, cs.length = 2) → ∀ i a b, i < css.length → (css.flatten.set (i * 2) a).set (i * 2 + 1) b = (css.set i [a, b]).flatten
  | [], _, i, _, _, h => by simp at h
  | c :: css, hk, 0, a, b, _ => by
    have hc : c.length = 2 := hk c (by simp)
    match c, hc with
    | [x, y], _ => simp
  | c :: css, hk, i + 1, a, b, h => by
    have hc : c.length = 2 := hk c (by simp)
    match c, hc with
    | [x, y], _ =>
      have := flatten_set2 css (fun c hc => hk c (by simp [hc])) i a b (by simpa using h)
      simp only [List.flatten_cons, List.cons_append, List.nil_append, List.set_cons_succ]
      rw [show (i + 1) * 2 + 1 = (i * 2 + 1) + 1 + 1 by omega, show (i + 1) * 2 = i * 2 + 1 + 1 by omega]
      simp only [List.set_cons_succ]
      rw [this]
theorem flatten_set1 : ∀ (css : List (List Value)), (∀ cs ∈ css, cs.length = 1) → ∀ i a, i < css.length → css.flatten.set i a = (css.set i [a]).flatten
  | [], _, i, _, h => by simp at h
  | c :: css, hk, 0, a, _ => by
    have hc : c.length = 1 := hk c (by simp)
    match c, hc with
    | [x], _ => simp
  | c :: css, hk, i + 1, a, h => by
    have hc : c.length = 1 := hk c (by simp)
    match c, hc with
    | [x], _ =>
      have := flatten_set1 css (fun c hc => hk c (by simp [hc])) i a (by simpa using h)
      simp only [List.flatten_cons, List.cons_append, List.nil_append, List.set_cons_succ]
      rw [this]

/-- 'clear(s[i:])' of a row of one's own: its first i elements stand. -/
theorem run_clear_own {P : Program} {t ty e : TypeId} {k : Nat} {z : Value} (hk : 0 < k) (ht : P.underlying t = some (.slice e)) (hz : ∀ w, (zeroValue e).run P w = .ok z w) (hzs : z.cells.size = k) (hz1 : ∀ u ∈ z.cells, u.oneCell' = true)
    {w : World} {B g n cap : Nat} {xs : List Value} (hown : w.ownsRow B e k (.slice (some ⟨g, 0, none⟩) n cap) n xs) (i c : Nat) (hi : i ≤ n) :
    ∃ w', (Builtin.clear_ #[t] ty #[.slice (some ⟨g, i * k, none⟩) (n - i) c]).run P w = .ok (.tuple #[]) w' ∧ w'.ownsRow B e k (.slice (some ⟨g, 0, none⟩) i cap) i (xs.take (i * k)) ∧ w.grownBy w' (some g) := by
  obtain ⟨hlen, hrow⟩ := hown
  rcases hrow with ⟨hv, _⟩ | ⟨g', cap', cur, hv, hb, hg, hn, hcm, hcs, htake⟩
  · cases hv
  · injection hv with h1 h2 h3
    injection h1 with h1
    injection h1 with h1 _ _
    subst h1; subst h3
    have hik : i * k ≤ n * k := Nat.mul_le_mul_right _ hi
    have hnk : n * k ≤ cap * k := Nat.mul_le_mul_right _ hn
    by_cases h0 : n - i = 0
    · obtain rfl : i = n := by omega
      refine ⟨w, ?_, ?_, ⟨rfl, rfl, rfl, Nat.le_refl _, fun _ _ _ => rfl⟩⟩
      · rw [h0]
        simp [Builtin.clear_, run_underlying ht]
      · exact ⟨by rw [List.length_take, hlen]; omega, .inr ⟨g, cap, cur, rfl, hb, hg, hn, hcm, hcs, by rw [htake, List.take_of_length_le (by omega)]⟩⟩
    · have hzl : (Builtin.zeroCells z.cells (n - i)).toList.length = (n - i) * k := by rw [Array.length_toList, size_zeroCells, hzs]
      have hsub : (n - i) * k = n * k - i * k := Nat.sub_mul _ _ _
      have hst := run_storeCells_at P g (i * k) e (Builtin.zeroCells z.cells (n - i)).toList 0 cur w hg (by rw [hzl, hsub, hcs]; omega)
        (by
          intro u hu
          simp only [Builtin.zeroCells, Array.toList_map, List.mem_map] at hu
          obtain ⟨q, _, rfl⟩ := hu
          have hq : q % z.cells.size < z.cells.size := Nat.mod_lt _ (by omega)
          rw [getElem!_pos z.cells _ hq]
          exact hz1 _ (Array.getElem_mem _))
      simp only [Nat.add_zero] at hst
      obtain ⟨nw, hnw⟩ : ∃ nw, (cur.toList.take (i * k) ++ (Builtin.zeroCells z.cells (n - i)).toList ++ cur.toList.drop (i * k + (Builtin.zeroCells z.cells (n - i)).toList.length)).toArray = nw := ⟨_, rfl⟩
      rw [hnw] at hst
      refine ⟨w.setRow g nw, ?_, ⟨by rw [List.length_take, hlen]; omega, .inr ⟨g, cap, nw, rfl, hb, setRow_heap w g cur nw e _ hg, by omega, hcm, ?_, ?_⟩⟩, ⟨rfl, rfl, rfl, by simp, fun q _ hq => setRow_other w g q _ (fun e => hq (by rw [e]))⟩⟩
      · obtain ⟨m, hm⟩ : ∃ m, n - i = m + 1 := ⟨n - i - 1, by omega⟩
        rw [hm] at hst ⊢
        simp [Builtin.clear_, run_underlying ht, hz, hst]
      · rw [← hnw]
        simp only [List.size_toArray, List.length_append, List.length_take, List.length_drop, Array.length_toList, hzl, hsub, hcs]
        omega
      · rw [← htake, ← hnw]
        simp only [List.append_assoc, List.take_append, List.length_take, Array.length_toList, List.take_take]
        rw [hcs, Nat.min_eq_left (by omega : i * k ≤ cap * k), Nat.sub_self, List.take_zero, Nat.zero_sub, List.take_zero, List.append_nil, List.append_nil, Nat.min_self, Nat.min_eq_left hik]
end Go.Proofs.Ytmnpneandkiblaa
