/-
  THE WALK OF match.tidy: binds rise, each list once.
-/
import Derived.Test.YtmnpneandkiblaaCompW
import Derived.Laws.EntriesVeiled
namespace Go.Proofs.Ytmnpneandkiblaa
open Go.RowKit

theorem compactC_rising {α : Type} [DecidableEq α] {c : α → α → Int} (h3 : Cmp3 c) {l : List α} (hs : l.Pairwise fun a b => ¬ c b a < 0) : ∀ n, RisingC c (compactL (l.take n))
  | 0 => by simp [compactL, RisingC]
  | n + 1 => by
    cases h : l[n]? with
    | none => rw [List.take_add_one, h]; simpa using compactC_rising h3 hs n
    | some y =>
      rw [compactL_take_succ h, snocC]
      have ih := compactC_rising h3 hs n
      split
      · exact ih
      · rename_i hl
        refine List.pairwise_append.2 ⟨ih, by simp, fun a ha b hb => ?_⟩
        obtain rfl := List.mem_singleton.1 hb
        have ha' := (mem_compactL l a n).1 ha
        obtain ⟨p, hp⟩ := List.mem_iff_getElem?.1 ha'
        have hpn : p < n := by
          have := (List.getElem?_eq_some_iff.1 hp).1
          rw [List.length_take] at this; omega
        rw [List.getElem?_take_of_lt hpn] at hp
        obtain ⟨h1, rfl⟩ := List.getElem?_eq_some_iff.1 hp
        obtain ⟨h2, rfl⟩ := List.getElem?_eq_some_iff.1 h
        have h4 := List.pairwise_iff_getElem.1 hs p n h1 h2 hpn
        have hne : l[p] ≠ l[n] := by
          intro e
          apply hl
          obtain ⟨m, rfl⟩ : ∃ m, n = m + 1 := ⟨n - 1, by omega⟩
          have hm : l[m]? = some l[m] := List.getElem?_eq_getElem (by omega)
          rw [compactL_last hm]
          congr 1
          by_cases hpm : p = m
          · subst hpm; exact e
          · have q1 := List.pairwise_iff_getElem.1 hs p m h1 (by omega) (by omega)
            have q2 := List.pairwise_iff_getElem.1 hs m (m + 1) (by omega) h2 (by omega)
            rw [e] at q1
            have := h3.anti l[m] l[m + 1]
            have := h3.anti l[m + 1] l[m]
            exact (h3.zero _ _).1 (by omega)
        simp only [ltC, decide_eq_true_eq]
        have := h3.ne_zero hne
        have := h3.anti l[n] l[p]
        omega
theorem compactC_of {α : Type} [DecidableEq α] {c : α → α → Int} (h3 : Cmp3 c) {l l' : List α} (hp : l'.Perm l) (hs : l'.Pairwise fun a b => ¬ c b a < 0) : compactL l' = ofC c l := by
  have h := compactC_rising h3 hs l'.length
  rw [List.take_length] at h
  refine risingC_ext h3 h (ofC_rising h3 l) fun x => ?_
  have := mem_compactL l' x l'.length
  rw [List.take_length] at this
  rw [this, hp.mem_iff, mem_ofC h3]
theorem sorted_of {α : Type} [DecidableEq α] {c : α → α → Int} (h3 : Cmp3 c) {l l' : List α} (hp : l'.Perm l) (hs : l'.Pairwise fun a b => ¬ c b a < 0) (hn : l.Nodup) : l' = ofC c l :=
  risingC_ext h3 (rising_of_sorted h3 hs (hp.nodup_iff.2 hn)) (ofC_rising h3 l) fun x => by rw [hp.mem_iff, mem_ofC h3]

def srt (z : VB) : VB := (z.1, ofC cmpBind z.2)
theorem srt_get {zs : List VB} {k : Nat} {z : VB} (h : zs[k]? = some z) : ((zs.take k).map srt ++ zs.drop k)[k]? = some z := by
  have hk := (List.getElem?_eq_some_iff.1 h).1
  rw [List.getElem?_append_right (by rw [List.length_map, List.length_take]; omega), List.length_map, List.length_take, Nat.min_eq_left (by omega), Nat.sub_self, drop_cons h]
  rfl
theorem srt_step {zs : List VB} {k : Nat} {z : VB} (h : zs[k]? = some z) : (zs.take (k + 1)).map srt ++ zs.drop (k + 1) = (zs.take k).map srt ++ (z.1, ofC cmpBind z.2) :: zs.drop (k + 1) := by
  rw [List.take_add_one, h, List.map_append, List.append_assoc]; rfl

set_option maxRecDepth 100000 in
set_option maxHeartbeats 8000000 in
theorem tidyCalls {B : Nat} {w : World} {v : Value} {zs : List VB} (hN : Nest B w v zs) (hB : B ≤ w.heap.size) (hnd : ∀ z ∈ zs, z.2.Nodup) (n1 : zs.length ≤ 1073741824) (n2 : ∀ z ∈ zs, z.2.length ≤ 1073741824) :
    Calls Try.prog 26 #[v] w fun en w' => (∃ v' ys, en = .returned v' ∧ Nest B w' v' ys ∧ ys.map (·.2) = tidyP (zs.map (·.2))) ∧ Below B w w' := by
  obtain ⟨a, c, rfl, -, -, -⟩ := id (hN.outer.read RPair.steady).form
  have HN := Lib.hid hN
  have ND := Lib.hid hnd
  have N2 := Lib.hid n2
  have HB0 := Lib.hid ((Below.refl B w).alloc hB (.cells #[.func (.func 41) #[] #[]] 85))
  have HO0 := Lib.hid (Blk.new w 85 #[.func (.func 41) #[] #[]])
  have HN0 := Lib.hid (hN.alloc (.cells #[.func (.func 41) #[] #[]] 85))
  clear hN hnd n2
  go_enter Try.func26, Try.ntmps26
  go_wp2
  go_loopw [8, 5] (fun i _ wr => ∃ k : Nat, k ≤ zs.length ∧ i = .int .i64 k ∧ Hid (Nest B wr (.slice a zs.length c) ((zs.take k).map srt ++ zs.drop k)) ∧ Hid (Below B w wr) ∧ Hid (Blk wr w.heap.size 85 #[.func (.func 41) #[] #[]])) (fun i _ _ => zs.length - (intOf i).toNat)
  case atStart => exact ⟨0, Nat.zero_le _, rfl, Lib.hid (by simpa using HN0.out), HB0, HO0⟩
  case round =>
    clear HB0 HO0 HN0
    obtain ⟨k, hk, rfl, HNK, HB, HO⟩ := hrel
    have ho : wr.cell? ⟨w.heap.size, 0, none⟩ = some (.func (.func 41) #[] #[]) := HO.out.cell 0
    have hlo := HO.out.lt
    by_cases hlt : k < zs.length
    · obtain ⟨z, hx⟩ : ∃ z, zs[k]? = some z := ⟨_, List.getElem?_eq_getElem hlt⟩
      have hm := List.mem_of_getElem? hx
      obtain ⟨g, rfl, hgl, hc⟩ := OV.cellAt HNK.out.outer (srt_get hx)
      have hN2 := HNK.out
      rw [drop_cons hx] at hN2
      have hoz : OB B wr z.1 z.2 := hN2.inner z (by simp)
      have hzb : z.1.ownBlock ≠ some w.heap.size := fun e => by have := (HN.out.inner_lt hm e).2; omega
      have KS := Lib.hid ((sortBind hoz (N2.out z hm)).mono (R' := fun en w' => en = .returned (.tuple #[]) ∧ Nest B w' (.slice (some ⟨g, 0, none⟩) zs.length c) ((zs.take (k + 1)).map srt ++ zs.drop (k + 1)) ∧ Below B w w' ∧ Blk w' w.heap.size 85 #[.func (.func 41) #[] #[]])
        fun en w' ⟨he, l', hp, hs, ho', hg'⟩ => by
          have hl := sorted_of cmpBind3 hp hs (ND.out z hm)
          subst hl
          refine ⟨he, ?_, ?_, ?_⟩
          · rw [srt_step hx]
            exact hN2.turn ho' (hN2.outer.tell (by simp)) hg'
          · exact HB.out.grown hg' (Nat.le_trans hB HB.out.size) (fun q hq => (hoz.row_lt hq).1)
          · exact HO.out.grown hg' (fun e => hzb e.symm))
      obtain ⟨za, zc, hz1, -⟩ := (OB.read hoz).form
      rw [hz1] at hc KS
      clear hx hm hN2 hoz hzb hz1
      go_wp2_with (go_at_call 44; refine (KS.out).mono ?_; rintro e w1 ⟨rfl, hn1, hb1, ho1⟩; have HN1 := Lib.hid hn1; have HB1 := Lib.hid hb1; have HO1 := Lib.hid ho1; clear hn1 hb1 ho1)
      go_roundw
      case rel => exact ⟨k + 1, by omega, by go_num, HN1, HB1, HO1⟩
      case measure => simp [intOf]; omega
    · have hN2 : Nest B wr (.slice a zs.length c) (zs.map srt) := by
        have := HNK.out
        rwa [List.take_of_length_le (by omega), List.drop_eq_nil_of_le (by omega), List.append_nil] at this
      have hsn : ∀ y ∈ zs.map srt, y.2.length ≤ 1073741824 := fun y hy => by
        obtain ⟨z, hz, rfl⟩ := List.mem_map.1 hy
        show (ofC cmpBind z.2).length ≤ _
        rw [length_ofC cmpBind3 _ (ND.out z hz)]
        exact N2.out z hz
      have hoa : some w.heap.size ≠ (Value.slice a zs.length c).ownBlock := fun e => by have := (HN.out.row_lt e.symm).2; omega
      have KS := Lib.hid ((sortNest hN2 HO.out hoa (by rw [List.length_map]; exact n1) hsn).mono (R' := fun en w' => en = .returned (.tuple #[]) ∧ Below B w w' ∧ ∃ zs', Nest B w' (.slice a zs.length c) zs' ∧ compactL (zs'.map (·.2)) = tidyP (zs.map (·.2)) ∧ zs'.length ≤ 1073741824 ∧ ∀ y ∈ zs', y.2.length ≤ 1073741824)
        fun en w' ⟨he, zs', hp, hs, hn', hg'⟩ => by
          refine ⟨he, HB.out.grown hg' (Nat.le_trans hB HB.out.size) (fun q hq => (hN2.row_lt hq).1), zs', hn', ?_, by rw [hp.length_eq, List.length_map]; exact n1, fun y hy => hsn y (hp.mem_iff.1 hy)⟩
          have h1 := hp.map (fun z : VB => z.2)
          rw [List.map_map] at h1
          rw [compactC_of cmpBinds3 h1 (by rw [List.pairwise_map]; exact hs)]
          unfold tidyP
          rw [List.map_map]
          rfl)
      clear hN2 hsn hoa
      go_wp2_with (first
        | (go_at_call 45; refine (KS.out).mono ?_; rintro e w1 ⟨rfl, hb1, zs', hn1, hc1, hl1, hl2⟩; have HB1 := Lib.hid hb1; have KC := Lib.hid (compactNest hn1 hl1 hl2); have HRW := Lib.hid (fun q => (hn1.row_lt (g := q))); have HC1 := Lib.hid hc1; clear hb1 hn1 hc1 hl1 hl2)
        | (go_at_call 48; refine (KC.out).mono ?_; rintro e w2 ⟨⟨v2, rfl, hn2⟩, hg2⟩; have HN2 := Lib.hid hn2; have HB2 := Lib.hid (HB1.out.grown hg2 (Nat.le_trans hB (Below.size HB1.out)) (fun q hq => (HRW.out q hq).1)); clear hn2 hg2))
      go_ret
      exact ⟨⟨v2, _, rfl, HN2.out, by rw [compactB_map]; exact HC1.out⟩, HB2.out⟩
end Go.Proofs.Ytmnpneandkiblaa
