/-
  THE WALK OF fact.Less: the facts of one set that are not in another.
-/
import Derived.Test.YtgdokncccldgiaaClone
import Derived.Test.YtgdokncccldgiaaIn
namespace Go.Proofs.Ytgdokncccldgiaa
open Go.RowKit

theorem lessF_snoc (a b : List PFact) (x : PFact) : lessF (a ++ [x]) b = if memF x b then lessF a b else lessF a b ++ [x] := by
  unfold lessF
  rw [List.filter_append]
  cases h : memF x b <;> simp [h]

attribute [local go_sem ↓] Go.wp_at_zero Go.wp_at_succ
set_option maxRecDepth 100000 in
set_option maxHeartbeats 4000000 in
theorem lessCalls {S T : Nat → Prop} (va vb : Value) (l m : List PFact) (w : World) (h : RdFacts S w va l) (hm : RdFacts T w vb m) (hs : Rising m) (n1 : l.length ≤ 1073741824) (n2 : ∀ x ∈ l, x.args.length ≤ 1073741824) (n3 : m.length ≤ 1073741824) (n4 : ∀ x ∈ m, x.args.length ≤ 1073741824) :
    Calls Try.prog 55 #[va, vb] w fun e w' => (∃ v', e = .returned v' ∧ Owned 2 RFact w.heap.size 57 (New w) w' v' (lessF l m)) ∧ Below w.heap.size w w' := by
  obtain ⟨a, c, rfl, -, -, -⟩ := id h.form
  obtain ⟨b, d, rfl, -, -, -⟩ := id hm.form
  have H := Lib.hid h
  have N2 := Lib.hid n2
  have K := Lib.hid (fun W (x : PFact) (av : Value) (hW : Below w.heap.size w W) (hx : RdStrs (fun _ => True) W av x.args) => inFact _ m x av W ((hm.more RFact.steady (fun _ _ _ => trivial)).agree RFact.steady (Below.agree (S := fun _ => True) hW)) hx hs n3 n4)
  clear h n2 hm hs n4
  go_enter Try.func55, Try.ntmps55
  go_wp2
  go_loopw [10, 5] (fun i v wr => ∃ k : Nat, k ≤ l.length ∧ i = .int .i64 k ∧ Hid (Owned 2 RFact w.heap.size 57 (New w) wr v (lessF (l.take k) m)) ∧ Hid (Below w.heap.size w wr)) (fun i _ _ => l.length - (intOf i).toNat)
  case atStart => exact ⟨0, Nat.zero_le _, rfl, Owned.nil, Below.refl _ _⟩
  case round =>
    obtain ⟨k, hk, rfl, HO, HB⟩ := hrel
    by_cases hlt : k < l.length
    · obtain ⟨x, hx⟩ : ∃ x, l[k]? = some x := ⟨_, List.getElem?_eq_getElem hlt⟩
      have hn2 : x.args.length ≤ 1073741824 := N2.out x (List.mem_of_getElem? hx)
      obtain ⟨b1, o1, av, rfl, -, -, hc1, hc2, hav⟩ := RdFacts.at ((H.out.more RFact.steady (S' := fun _ => True) (fun _ _ _ => trivial)).agree RFact.steady (Below.agree HB.out)) hx
      obtain ⟨aa, ac, rfl, -, -, -⟩ := id hav.form
      have HT := Lib.hid (show lessF (l.take (k + 1)) m = if memF x m then lessF (l.take k) m else lessF (l.take k) m ++ [x] by rw [List.take_add_one, hx]; exact lessF_snoc (l.take k) m x)
      have HA := Lib.hid hav
      have hsz := HB.out.size
      have hll : (lessF (l.take k) m).length ≤ k := by
        refine Nat.le_trans (List.length_filter_le _ _) ?_
        rw [List.length_take]; exact Nat.min_le_left _ _
      have HLL := Lib.hid hll
      clear hav hx hll
      cases hmem : memF x m
      · have HM := Lib.hid hmem
        clear hmem
        go_wp2_with (go_at_call 53; refine (K.out _ x _ (HB.out.alloc hsz _) (HA.out.agree RStr.steady ((Agree.refl _ _).alloc _))).mono ?_; rintro e w0 ⟨rfl, hf0⟩; rw [HM.out])
        have hB0 : Below w.heap.size w w0 := (HB.out.alloc hsz _).trans (hf0.below.mono (by simp; omega))
        have HB0 := Lib.hid hB0
        have HO0 := Lib.hid ((HO.out.alloc RFact.steady (.cells #[.string x.name, .slice aa x.args.length ac] 57)).below RFact.steady hf0.below)
        have HA0 := Lib.hid ((HA.out.agree RStr.steady ((Agree.refl _ _).alloc (.cells #[.string x.name, .slice aa x.args.length ac] 57))).agree RStr.steady (Below.agree hf0.below))
        have hs0 : wr.heap.size < w0.heap.size := by have := hf0.below.size; simp at this; omega
        have d0 : w0.cell? ⟨wr.heap.size, 0, none⟩ = some (.string x.name) := by rw [cell_below hf0.below (by simp)]; simp
        have d1 : w0.cell? ⟨wr.heap.size, 1, none⟩ = some (.slice aa x.args.length ac) := by rw [cell_below hf0.below (by simp)]; simp
        have hsz0 := hB0.size
        clear hB0 hf0
        go_wp2_with fail
        go_region_held3 (fun w' => w'.cell? ⟨wr.heap.size, 0, none⟩ = some (.string x.name) ∧ w'.cell? ⟨wr.heap.size, 1, none⟩ = some (.slice aa x.args.length ac))
          (first
            | (refine ⟨?_, ?_⟩ <;> (rw [hk2]; simpa using by assumption))
            | (refine ⟨?_, ?_⟩ <;> (rw [cell_below hb1 (by simpa using hs0)]; assumption))
            | go_keep)
          (first
            | (go_at_call 100; refine (cloneStr _ x.args _ (HA0.out.agree RStr.steady ((Agree.refl _ _).drew)) hn2).mono ?_; rintro e w1 ⟨⟨v1, rfl, hr1⟩, hb1⟩; obtain ⟨a1, c1, rfl, -, -, -⟩ := id hr1.form)
            | (refine step_append_one (by rfl) _ _ 55 (by rfl) RFact.steady rowFacts _ (lessF (l.take k) m) (by rfl) (((HO0.out.drew RFact.steady).below RFact.steady hb1).alloc RFact.steady _) _ 1 #[.string x.name, .slice a1 x.args.length c1] 57 (0, 0) x (by rfl) (heap_alloc_new _ _) rfl (by simp [Value.oneCell']) (RFact.fresh HO0.out hsz0 (Nat.le_refl _) hr1 ((Agree.refl _ _).alloc _)) (by have := HLL.out; omega) (by have := hb1.size; simp at this ⊢; omega) ?_; intro v2 w2 hown2 hg2 hat2; have hk2 := fun off => kept_cell (c := wr.heap.size) hb1 hg2 (by simpa using hs0) (fun e => by have := (HO.out.row_lt e).2; omega) off))
        have HO2 := Lib.hid (show Owned 2 RFact w.heap.size 57 (New w) w2 v2 (lessF (l.take (k + 1)) m) by rw [HT.out, HM.out]; exact hown2)
        have HB2 := Lib.hid (show Below w.heap.size w w2 from (((HB0.out.drew.trans (hb1.mono hsz0)).alloc (by have := hb1.size; simp at this ⊢; omega) _).grown hg2 (by have := hb1.size; simp at this ⊢; omega) (fun q hq => (HO.out.row_lt hq).1)))
        clear hown2 hg2 hat2 hk2 hb1 hr1
        go_wp2
        go_roundw
        case rel => exact ⟨k + 1, by omega, by go_num, HO2.out, HB2.out⟩
        case measure => simp [intOf]; omega
      · have HM := Lib.hid hmem
        clear hmem
        go_wp2_with (go_at_call 53; refine (K.out _ x _ (HB.out.alloc hsz _) (HA.out.agree RStr.steady ((Agree.refl _ _).alloc _))).mono ?_; rintro e w0 ⟨rfl, hf0⟩; rw [HM.out])
        have HB0 := Lib.hid ((HB.out.alloc hsz _).trans (hf0.below.mono (by simp; omega)))
        have HO0 := Lib.hid (show Owned 2 RFact w.heap.size 57 (New w) w0 _ (lessF (l.take (k + 1)) m) by rw [HT.out, HM.out]; exact ((HO.out.alloc RFact.steady (.cells #[.string x.name, .slice aa x.args.length ac] 57)).below RFact.steady hf0.below))
        clear hf0
        go_wp2
        go_roundw
        case rel => exact ⟨k + 1, by omega, by go_num, HO0.out, HB0.out⟩
        case measure => simp [intOf]; omega
    · have htk : l.take k = l := List.take_of_length_le (by omega)
      rw [htk] at HO
      clear htk
      go_wp2
      go_ret
      exact ⟨⟨_, rfl, HO.out⟩, HB.out⟩
end Go.Proofs.Ytgdokncccldgiaa
