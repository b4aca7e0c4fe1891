/-
  slices.SortFunc OF A ROW OF ONE'S OWN, at elements of k cells: a permutation, sorted; the same slice owns it.
-/
import Derived.Test.YtmnpneandkiblaaOwn
import Derived.Test.YtmnpneandkiblaaFactP
import Derived.Shelf.SlSortCmp.WholeK
import Derived.Shelf.SlSortCmp.NoneTotal
namespace Go.Proofs.Ytmnpneandkiblaa
open Go.RowKit Go.Sort Go.Shelf

theorem flatK_toList {α : Type} [Inhabited α] (enc : α → List Value) (k : Nat) (hk : ∀ x, (enc x).length = k) (d : Array α) : (flatK enc k d).toList = (d.toList.map enc).flatten := by
  have hlen : ((d.toList.map enc).flatten).length = d.size * k := by
    have : ∀ l : List α, ((l.map enc).flatten).length = l.length * k := by
      intro l
      induction l with
      | nil => simp
      | cons x l ih => rw [List.map_cons, List.flatten_cons, List.length_append, ih, hk, List.length_cons, Nat.add_mul]; omega
    simpa using this d.toList
  apply List.ext_getElem?
  intro t
  by_cases ht : t < d.size * k
  · have k0 : 0 < k := by
      rcases Nat.eq_zero_or_pos k with h | h
      · subst h; omega
      · exact h
    have hi : t / k < d.size := Nat.div_lt_of_lt_mul (by rw [Nat.mul_comm]; exact ht)
    have hj : t % k < k := Nat.mod_lt _ k0
    have h1 : (flatK enc k d).toList[t]? = some (enc d[t / k]!)[t % k]! := by
      have := get_flatK enc k d t ht
      rw [Array.getElem?_toList]
      rw [Array.getElem!_eq_getD, Array.getD] at this
      simp only [size_flatK, ht, dite_true] at this
      rw [Array.getElem?_eq_getElem (by simpa using ht)]
      exact congrArg some this
    rw [h1]
    have hx : (d.toList.map enc)[t / k]? = some (enc d[t / k]!) := by
      rw [List.getElem?_map, Array.getElem?_toList, Array.getElem?_eq_getElem hi, getElem!_pos d _ hi]; rfl
    have hu : (enc d[t / k]!)[t % k]? = some (enc d[t / k]!)[t % k]! := by
      rw [List.getElem?_eq_getElem (by rw [hk]; exact hj), List.getElem!_eq_getElem?_getD, List.getElem?_eq_getElem (by rw [hk]; exact hj)]; rfl
    have := flatten_get (k := k) (d.toList.map enc) (by intro cs hcs; obtain ⟨x, _, rfl⟩ := List.mem_map.1 hcs; exact hk x) (t / k) _ (t % k) _ hx hu
    rw [Nat.mul_comm, Nat.div_add_mod] at this
    exact this.symm
  · rw [List.getElem?_eq_none (by simp; omega), List.getElem?_eq_none (by omega)]

theorem heap_sortedK {α : Type} [Inhabited α] {enc : α → List Value} {k : Nat} {w : World} {g n : Nat} {os : Array Obj} {cur : Array Value} {e : TypeId} {fr : Nat × Nat} (d : Array α) (hb : w.heap[g]? = some (.cells cur e fr)) :
    (sortWorldK enc k w g 0 n d os).heap[g]? = some (.cells (putCells id 0 (flatK enc k d) cur) e fr) := by
  have hg : g < w.heap.size := (Array.getElem?_eq_some_iff.1 hb).1
  unfold sortWorldK
  rw [heap_grow_old _ _ (by simpa [putRowK] using hg)]
  simp [putRowK, putRow, mapBlock, Sort.ahead, Array.getElem?_modify, hb, onCells]

theorem grownBy_sortedK {α : Type} [Inhabited α] {enc : α → List Value} {k : Nat} {w : World} {g off n : Nat} {os : Array Obj} (d : Array α) : w.grownBy (sortWorldK enc k w g off n d os) (some g) := by
  refine ⟨rfl, rfl, rfl, by simp [sortWorldK, putRowK], fun q hq hne => ?_⟩
  unfold sortWorldK
  rw [heap_grow_old _ _ (by simpa [putRowK] using hq)]
  have : g ≠ q := fun e => hne (by rw [e])
  simp [putRowK, putRow, mapBlock, Sort.ahead, Array.getElem?_modify, this]

theorem take_putK (F cur : Array Value) (h : F.size ≤ cur.size) : (putCells id 0 F cur).toList.take F.size = F.toList := by
  apply List.ext_getElem?
  intro j
  by_cases hj : j < F.size
  · rw [List.getElem?_take_of_lt hj, Array.getElem?_toList, Array.getElem?_toList]
    simp [putCells, hj, show j < cur.size by omega]
  · rw [List.getElem?_take_eq_none (by omega), List.getElem?_eq_none (by simp; omega)]

/-- An element of the row: its cells, and what they read as. -/
structure VElem (α : Type) (k : Nat) (R : Reader α) (Q : α → Prop) (S : Nat → Prop) (w : World) where
  cells : List Value
  val : α
  len : cells.length = k
  rd : R S w cells val
  q : Q val

set_option maxHeartbeats 1000000 in
theorem sort_owned {P : Program} {ρ : Ren} (L : SlLaysF0.n6 P ρ) {α : Type} {k : Nat} {R : Reader α} (hR : Steady R) (hcell : ∀ {S w cs x}, R S w cs x → ∀ u ∈ cs, u.oneCell' = true) (Q : α → Prop)
    (aE : ∀ w, (isAgg (ρ.t 24)).run P w = .ok true w) (zE : ∀ w, (Go.sizeOf (ρ.t 24)).run P w = .ok k w) {cf : α → α → Int} (c3 : Cmp3 cf) (g : Nat) (eg : ∀ args w, (callFunc g args).run P w = .ok (.enter g args) w)
    (hC : ∀ {S : Nat → Prop} (W : World) (x y : α) (cx cy : List Value), R S W cx x → R S W cy y → Q x → Q y → Calls P g #[.agg cx.toArray, .agg cy.toArray] W fun e w' => e = .returned (.int .i64 (cf x y)) ∧ Fresh W w')
    {B : Nat} {e : TypeId} {S : Nat → Prop} {w : World} {v : Value} {l : List α} (hown : Owned k R B e S w v l) (hQ : ∀ x ∈ l, Q x) (hsz : l.length < 4611686018427387904) :
    Calls P (ρ.f 6) #[v, .func (.func g) #[] #[]] w fun en w' => en = .returned (.tuple #[]) ∧ ∃ l', l'.Perm l ∧ l'.Pairwise (fun a b => ¬ cf b a < 0) ∧ Owned k R B e S w' v l' ∧ w.grownBy w' v.ownBlock := by
  have hO := hown
  obtain ⟨css, hl, hk, ho, hr⟩ := hown
  rcases hempty : l with _ | ⟨x0, l0⟩
  · subst hempty
    obtain ⟨p, cap, hv⟩ : ∃ p cap, v = .slice p 0 cap := by
      rcases ho.2 with ⟨hv, _⟩ | ⟨g, cap, cur, hv, _⟩
      · exact ⟨none, 0, hv⟩
      · exact ⟨_, cap, hv⟩
    subst hv
    refine (AnyF.slices_SortFunc_none { L with } p cap _ w).mono fun en w' ⟨he, hw⟩ => ?_
    subst hw
    exact ⟨he, [], List.Perm.refl _, List.Pairwise.nil, hO, ⟨rfl, rfl, rfl, Nat.le_refl _, fun _ _ _ => rfl⟩⟩
  · rw [← hempty]
    have hpos : 0 < l.length := by rw [hempty]; simp
    rcases ho.2 with ⟨_, h0⟩ | ⟨b, cap, cur, rfl, hbB, hb, hnc, hcm, hcs, htake⟩
    · omega
    · let E := VElem α k R Q (fun q => S q ∧ some q ≠ (Value.slice (some ⟨b, 0, none⟩) l.length cap).ownBlock) w
      have mk : ∀ i, i < l.length → ∃ E0 : E, css[i]? = some E0.cells ∧ l[i]? = some E0.val := fun i hi => by
        have h1 : css[i]? = some css[i] := List.getElem?_eq_getElem (by omega)
        have h2 : l[i]? = some l[i] := List.getElem?_eq_getElem hi
        exact ⟨⟨css[i], l[i], hk _ (List.getElem_mem _), hr i _ _ h1 h2, hQ _ (List.getElem_mem _)⟩, h1, h2⟩
      letI : Inhabited E := ⟨(mk 0 hpos).choose⟩
      obtain ⟨dl, hd1, hd2⟩ : ∃ dl : List E, dl.map (·.cells) = css ∧ dl.map (·.val) = l := by
        have main : ∀ n, n ≤ l.length → ∃ dl : List E, dl.map (·.cells) = css.take n ∧ dl.map (·.val) = l.take n := by
          intro n
          induction n with
          | zero => exact fun _ => ⟨[], by simp, by simp⟩
          | succ n ih =>
            intro hn
            obtain ⟨dl, g1, g2⟩ := ih (by omega)
            obtain ⟨E0, e1, e2⟩ := mk n (by omega)
            exact ⟨dl ++ [E0], by rw [List.map_append, g1, List.take_add_one, e1]; rfl, by rw [List.map_append, g2, List.take_add_one, e2]; rfl⟩
        obtain ⟨dl, g1, g2⟩ := main l.length (Nat.le_refl _)
        exact ⟨dl, by rw [g1, ← hl, List.take_length], by rw [g2, List.take_length]⟩
      have hdl : dl.length = l.length := by rw [← hd2]; simp
      have hkE : ∀ x : E, x.cells.length = k := fun x => x.len
      have hfl : (flatK (fun x : E => x.cells) k dl.toArray).toList = css.flatten := by rw [flatK_toList _ k hkE, ← hd1]
      have hfs : (flatK (fun x : E => x.cells) k dl.toArray).size = l.length * k := by simp [hdl]
      have hH : HoldsK (fun x : E => x.cells) k w b 0 dl.toArray := by
        intro j hj
        rw [hfs] at hj
        have h1 : (flatK (fun x : E => x.cells) k dl.toArray)[j]? = cur[j]? := by
          rw [← Array.getElem?_toList, hfl, ← htake, List.getElem?_take_of_lt hj, Array.getElem?_toList]
        refine ⟨?_, by simp [World.frozen?, hb]⟩
        simp only [World.cell?, hb, Nat.zero_add, Option.isSome_none, Bool.false_eq_true, if_false]
        rw [← h1, Array.getElem?_eq_getElem (by rw [hfs]; exact hj), getElem!_pos _ _ (by rw [hfs]; exact hj)]
        rfl
      have hcmp : CmpLays P g #[] (fun x : E => x.cells) k (fun x y => cf x.val y.val) b 0 dl.toArray.size w := by
        intro m os dk hdk x y
        have hag : Agree (fun q => S q ∧ some q ≠ (Value.slice (some ⟨b, 0, none⟩) l.length cap).ownBlock) w (sortWorldK (fun x : E => x.cells) k w b 0 m dk os) := by
          have := grownBy_sortedK (enc := fun x : E => x.cells) (k := k) (w := w) (g := b) (off := 0) (n := m) (os := os) dk
          exact ⟨this.size, fun q hq hlt => this.block q hlt hq.2⟩
        have := hC (sortWorldK (fun x : E => x.cells) k w b 0 m dk os) x.val y.val x.cells y.cells (hR.agree hag x.rd) (hR.agree hag y.rd) x.q y.q
        rw [Array.append_empty]
        exact this.mono fun en w' ⟨he, q, os', hw⟩ => ⟨he, q, os', hw⟩
      have hSWO : SWO (ltOf fun x y : E => cf x.val y.val) :=
        ⟨fun x => by simp [ltOf, c3.self], fun x y z h1 h2 => by simp only [ltOf, decide_eq_true_eq] at *; exact c3.trans _ _ _ h1 h2, fun x y z h1 h2 => by
          simp only [ltOf, decide_eq_false_iff_not] at *
          intro h3
          by_cases e1 : x.val = y.val
          · rw [e1] at h3; exact h2 h3
          · have h4 : cf y.val x.val < 0 := by have := c3.ne_zero e1; have := c3.anti y.val x.val; omega
            exact h2 (c3.trans _ _ _ h4 h3)⟩
      have hlt : b < w.heap.size := (Array.getElem?_eq_some_iff.1 hb).1
      have hsort := AnyQ.slices_SortFunc L k aE zE (fun x : E => x.cells) hkE (fun x => hcell x.rd) (fun x y => cf x.val y.val) hSWO g #[] b 0 cap dl.toArray w eg hcmp hH hlt (by simpa [hdl] using hsz)
      have hsize : dl.toArray.size = l.length := by simp [hdl]
      rw [hsize] at hsort
      refine hsort.mono fun en w' ⟨he, d', n, os, hperm, hsorted, hw⟩ => ⟨he, d'.toList.map (·.val), ?_, ?_, ?_, ?_⟩
      · have h1 := hperm.2.2
        have e1 : d'.extract 0 l.length = d' := by rw [← hsize, ← hperm.1]; simp
        have e2 : dl.toArray.extract 0 l.length = dl.toArray := by rw [← hsize]; simp
        rw [e1, e2] at h1
        have := h1.map (fun x : E => x.val)
        rw [show dl.toArray.toList = dl by simp, hd2] at this
        exact this
      · rw [List.pairwise_map]
        refine List.pairwise_iff_getElem.2 fun i j hi hj hij => ?_
        have hs := hsorted i j (Nat.zero_le _) hij (by rw [← hsize, ← hperm.1]; simpa using hj)
        simp only [ltOf, decide_eq_false_iff_not] at hs
        rw [getElem!_pos d' j (by simpa using hj), getElem!_pos d' i (by simpa using hi)] at hs
        exact hs
      · subst hw
        have hd' : d'.size = l.length := by rw [hperm.1, hsize]
        have hg := grownBy_sortedK (enc := fun x : E => x.cells) (k := k) (w := w) (g := b) (off := 0) (n := n) (os := os) d'
        refine ⟨d'.toList.map (·.cells), by simp, ?_, ⟨?_, .inr ⟨b, cap, _, by simp [hd'], hbB, heap_sortedK d' hb, by simpa [hd'] using hnc, hcm, by simp [putCells, hcs], ?_⟩⟩, ?_⟩
        · intro cs hcs'
          obtain ⟨x, _, rfl⟩ := List.mem_map.1 hcs'
          exact x.len
        · rw [← flatK_toList _ k hkE]; simp
        · have hf : (flatK (fun x : E => x.cells) k d').size = d'.size * k := by simp
          have := take_putK (flatK (fun x : E => x.cells) k d') cur (by rw [hf, hcs, hd']; exact Nat.mul_le_mul_right _ hnc)
          rw [hf] at this
          rw [List.length_map, Array.length_toList, this, flatK_toList _ k hkE]
        · intro i cs x hcs' hx'
          rw [List.getElem?_map] at hcs' hx'
          cases hi : d'.toList[i]? with
          | none => rw [hi] at hcs'; cases hcs'
          | some E0 =>
            rw [hi] at hcs' hx'
            obtain rfl : E0.cells = cs := by simpa using hcs'
            obtain rfl : E0.val = x := by simpa using hx'
            exact hR.agree ⟨hg.size, fun q hq hlt => hg.block q hlt hq.2⟩ E0.rd
      · subst hw
        exact grownBy_sortedK d'
end Go.Proofs.Ytmnpneandkiblaa
