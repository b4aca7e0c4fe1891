/-
  slices.SortFunc AT LISTS OF BINDS: rows in a row, put in order.
-/
import Derived.Test.YtmnpneandkiblaaTidyW1
namespace Go.Proofs.Ytmnpneandkiblaa
open Go.RowKit Go.Shelf Go.Sort

theorem heap_sorted1 {α : Type} [Inhabited α] {enc : α → Value} {w : World} {g n : Nat} {os : Array Obj} {cur : Array Value} {e : TypeId} {fr : Nat × Nat} (d : Array α) (hb : w.heap[g]? = some (.cells cur e fr)) :
    (sortWorld enc w g 0 n d os).heap[g]? = some (.cells (putCells enc 0 d cur) e fr) := by
  have hg : g < w.heap.size := (Array.getElem?_eq_some_iff.1 hb).1
  unfold sortWorld
  rw [heap_grow_old _ _ (by simpa [putRow, mapBlock, Sort.ahead] using hg)]
  simp [putRow, mapBlock, Sort.ahead, Array.getElem?_modify, hb, onCells]
theorem grownBy_sorted1 {α : Type} [Inhabited α] {enc : α → Value} {w : World} {g off n : Nat} {os : Array Obj} (d : Array α) : w.grownBy (sortWorld enc w g off n d os) (some g) := by
  refine ⟨rfl, rfl, rfl, by simp [sortWorld, putRow, mapBlock, Sort.ahead], fun q hq hne => ?_⟩
  unfold sortWorld
  rw [heap_grow_old _ _ (by simpa [putRow, mapBlock, Sort.ahead] using hq)]
  have : g ≠ q := fun e => hne (by rw [e])
  simp [putRow, mapBlock, Sort.ahead, Array.getElem?_modify, this]
theorem take_put1 {α : Type} [Inhabited α] (enc : α → Value) (d : Array α) (cur : Array Value) (h : d.size ≤ cur.size) : (putCells enc 0 d cur).toList.take d.size = d.toList.map enc := by
  apply List.ext_getElem?
  intro j
  by_cases hj : j < d.size
  · rw [List.getElem?_take_of_lt hj, Array.getElem?_toList, List.getElem?_map, Array.getElem?_toList]
    simp [putCells, hj, show j < cur.size by omega]
  · rw [List.getElem?_take_eq_none (by omega), List.getElem?_eq_none (by simp; omega)]

theorem enterTidy2 : ∀ args w, (callFunc 46 args).run Try.prog w = .ok (.enter 46 args) w := enters_of Try.func46 (by kernel_rfl) rfl

theorem Nest.perm {B : Nat} {w w' : World} {v : Value} {zs ys : List VB} (h : Nest B w v zs) (hp : ys.Perm zs) (ho : OV B w' v ys) (hg : w.grownBy w' v.ownBlock) : Nest B w' v ys :=
  ⟨ho, fun z hz => (h.inner z (hp.mem_iff.1 hz)).kept RBind.steady hg (fun q hq e => h.off z (hp.mem_iff.1 hz) q hq e),
    (hp.pairwise_iff (fun {a b} (hab : ∀ q, a.1.ownBlock = some q → b.1.ownBlock ≠ some q) q hq e => hab q e hq)).2 h.apart, fun z hz => h.off z (hp.mem_iff.1 hz)⟩

set_option maxHeartbeats 1000000 in
theorem sortNest {B O : Nat} {w : World} {v : Value} {zs : List VB} (hN : Nest B w v zs) (h0 : Blk w O 85 #[.func (.func 41) #[] #[]]) (hO : some O ≠ v.ownBlock) (n1 : zs.length ≤ 1073741824) (n2 : ∀ z ∈ zs, z.2.length ≤ 1073741824) :
    Calls Try.prog 45 #[v, .func (.func 46) #[] #[.pointer (some ⟨O, 0, none⟩)]] w fun en w' => en = .returned (.tuple #[]) ∧ ∃ zs', zs'.Perm zs ∧ zs'.Pairwise (fun a b => ¬ cmpBinds b.2 a.2 < 0) ∧ Nest B w' v zs' ∧ w.grownBy w' v.ownBlock := by
  obtain ⟨ho, h1⟩ := hN.outer.row
  rcases hempty : zs with _ | ⟨x0, l0⟩
  · subst hempty
    obtain ⟨p, cap, hv⟩ : ∃ p cap, v = .slice p 0 cap := by
      rcases ho.2 with ⟨hv, _⟩ | ⟨g, cap, cur, hv, _⟩
      · exact ⟨none, 0, hv⟩
      · exact ⟨_, cap, hv⟩
    subst hv
    refine (AnyF.slices_SortFunc_none (L := { Try.sortBinds with }) p cap _ w).mono fun en w' ⟨he, hw⟩ => ?_
    subst hw
    exact ⟨he, [], List.Perm.refl _, List.Pairwise.nil, hN, ⟨rfl, rfl, rfl, Nat.le_refl _, fun _ _ _ => rfl⟩⟩
  · rw [← hempty]
    have hpos : 0 < zs.length := by rw [hempty]; simp
    rcases id ho.2 with ⟨_, h0⟩ | ⟨b, cap, cur, rfl, hbB, hb, hnc, hcm, hcs, htake⟩
    · omega
    · let E := { z : VB // z ∈ zs }
      letI : Inhabited E := ⟨⟨x0, by rw [hempty]; simp⟩⟩
      let enc : E → Value := fun x => x.1.1
      let d : Array E := zs.attach.toArray
      have hd : d.toList.map (·.1) = zs := by show (zs.attach.toArray.toList).map (·.1) = zs; rw [List.toList_toArray]; exact List.attach_map_subtype_val zs
      have hde : d.toList.map enc = zs.map (·.1) := by
        have h2 : d.toList.map enc = (d.toList.map (·.1)).map (·.1) := by rw [List.map_map]; rfl
        rw [h2, hd]
      have hds : d.size = zs.length := by show zs.attach.toArray.size = _; rw [List.size_toArray]; exact List.length_attach
      have hH : Holds enc w b 0 d := by
        intro j hj
        rw [hds] at hj
        have h2 := ho.cellAt j (by omega)
        refine ⟨?_, ho.frozenAt _⟩
        rw [Nat.zero_add, h2, ← hde, List.getElem?_map, Array.getElem?_toList, Array.getElem?_eq_getElem (by omega), getElem!_pos d j (by omega)]
        rfl
      have hcmp : CmpLays1 Try.prog 46 #[.pointer (some ⟨O, 0, none⟩)] enc (fun x y => cmpBinds x.1.2 y.1.2) b 0 d.size w := by
        intro m os dk hdk x y
        have hg := grownBy_sorted1 (enc := enc) (w := w) (g := b) (off := 0) (n := m) (os := os) dk
        have hx := (hN.inner x.1 x.2).kept RBind.steady hg (fun q hq e => hN.off x.1 x.2 q hq (by rw [← e]; rfl))
        have hy := (hN.inner y.1 y.2).kept RBind.steady hg (fun q hq e => hN.off y.1 y.2 q hq (by rw [← e]; rfl))
        exact (tidy2Calls x.1.1 y.1.1 x.1.2 y.1.2 _ O (h0.grown hg hO) (OB.read hx) (OB.read hy) (n2 _ x.2) (n2 _ y.2)).mono fun en w' ⟨he, q, os', hw⟩ => ⟨he, q, os', hw⟩
      have c3 := cmpBinds3
      have hSWO : SWO (ltOf fun x y : E => cmpBinds x.1.2 y.1.2) :=
        ⟨fun x => by simp [ltOf, c3.self], fun x y z h1 h2 => by simp only [ltOf, decide_eq_true_eq] at *; exact c3.trans _ _ _ h1 h2, fun x y z h1 h2 => by
          simp only [ltOf, decide_eq_false_iff_not] at *
          intro h3
          by_cases e1 : x.1.2 = y.1.2
          · rw [e1] at h3; exact h2 h3
          · have h4 : cmpBinds y.1.2 x.1.2 < 0 := by have := c3.ne_zero e1; have := c3.anti y.1.2 x.1.2; omega
            exact h2 (c3.trans _ _ _ h4 h3)⟩
      have hlt : b < w.heap.size := (Array.getElem?_eq_some_iff.1 hb).1
      have hsort := Any.slices_SortFunc Try.sortBinds enc (fun x => h1 x.1 x.2) (fun x y => cmpBinds x.1.2 y.1.2) hSWO 46 #[.pointer (some ⟨O, 0, none⟩)] b 0 cap d w enterTidy2 hcmp hH hlt (by omega)
      rw [hds] at hsort
      refine hsort.mono fun en w' ⟨he, d', n, os, hperm, hsorted, hw⟩ => ?_
      subst hw
      have hd' : d'.size = zs.length := by rw [hperm.1, hds]
      have hP : (d'.toList.map (·.1)).Perm zs := by
        have h1 := hperm.2.2
        have e1 : d'.extract 0 zs.length = d' := by rw [← hd']; simp
        have e2 : d.extract 0 zs.length = d := by rw [← hds]; simp
        rw [e1, e2] at h1
        have := h1.map (fun x : E => x.1)
        rwa [hd] at this
      have hg := grownBy_sorted1 (enc := enc) (w := w) (g := b) (off := 0) (n := n) (os := os) d'
      refine ⟨he, d'.toList.map (·.1), hP, ?_, ?_, hg⟩
      · rw [List.pairwise_map]
        refine List.pairwise_iff_getElem.2 fun i j hi hj hij => ?_
        have hs := hsorted i j (Nat.zero_le _) hij (by rw [← hd']; simpa using hj)
        simp only [ltOf, decide_eq_false_iff_not] at hs
        rw [getElem!_pos d' j (by simpa using hj), getElem!_pos d' i (by simpa using hi)] at hs
        exact hs
      · refine hN.perm hP (OV.of_row ?_ (fun z hz => h1 z (hP.mem_iff.1 hz))) hg
        have hl : (d'.toList.map (·.1)).length = zs.length := by rw [List.length_map, Array.length_toList, hd']
        rw [hl]
        refine ⟨by simp [hd'], .inr ⟨b, cap, _, rfl, hbB, heap_sorted1 d' hb, hnc, hcm, by simpa [putCells] using hcs, ?_⟩⟩
        have h3 := take_put1 enc d' cur (by omega)
        rw [hd'] at h3
        rw [Nat.mul_one, h3, List.map_map]
        rfl
end Go.Proofs.Ytmnpneandkiblaa
