/-
  THE WALK OF fact.Set: the first thing that is wrong with a set.
-/
import Derived.Test.YtmnpneandkiblaaNames2
import Derived.Test.YtmnpneandkiblaaIn
namespace Go.Proofs.Ytmnpneandkiblaa
open Go.RowKit

/-- What is wrong at a place. -/
def badAt (l : List PFact) (i : Nat) : Int :=
  match l[i]? with
  | none => 0
  | some f => if wrongF f ≠ 0 then wrongF f else match i with
    | 0 => 0
    | j + 1 => match l[j]? with
      | none => 0
      | some g => if cmpFact g f < 0 then 0 else 2
def setF (l : List PFact) : Int × Int :=
  if 200 < l.length then (5, 0) else match (List.range l.length).find? (fun i => badAt l i != 0) with
    | none => (0, 0)
    | some i => (badAt l i, (i : Int))
theorem setF_many {l : List PFact} (h : 200 < l.length) : setF l = (5, 0) := by simp [setF, h]
theorem setF_at {l : List PFact} (h : ¬ 200 < l.length) {i : Nat} (hi : i < l.length) (h0 : ∀ j, j < i → badAt l j = 0) (hb : badAt l i ≠ 0) : setF l = (badAt l i, (i : Int)) := by
  have : (List.range l.length).find? (fun i => badAt l i != 0) = some i := by
    rw [List.find?_range_eq_some]
    refine ⟨by simpa using hb, by simpa using hi, fun j hj => by simp [h0 j hj]⟩
  simp [setF, h, this]
theorem setF_ok {l : List PFact} (h : ¬ 200 < l.length) (h0 : ∀ j, j < l.length → badAt l j = 0) : setF l = (0, 0) := by
  have : (List.range l.length).find? (fun i => badAt l i != 0) = none := by
    rw [List.find?_range_eq_none]
    intro j hj; simp [h0 j (by simpa using hj)]
  simp [setF, h, this]
theorem badAt_wrong {l : List PFact} {i : Nat} {f : PFact} (h : l[i]? = some f) (hw : wrongF f ≠ 0) : badAt l i = wrongF f := by simp [badAt, h, hw]
theorem badAt_zero {l : List PFact} {f : PFact} (h : l[0]? = some f) (hw : wrongF f = 0) : badAt l 0 = 0 := by simp [badAt, h, hw]
theorem badAt_succ {l : List PFact} {i : Nat} {f g : PFact} (h : l[i + 1]? = some f) (k : l[i]? = some g) (hw : wrongF f = 0) : badAt l (i + 1) = if cmpFact g f < 0 then 0 else 2 := by simp [badAt, h, k, hw]

theorem past_cell {w w' : World} {o : Obj} (h : Below (w.alloc o).heap.size (w.alloc o) w') {c : Nat} (hc : c < w.heap.size) (off : Nat) : w'.cell? ⟨c, off, none⟩ = w.cell? ⟨c, off, none⟩ :=
  (cell_below h (by simp; omega) off).trans (World.cell?_of_block (Below.heap_alloc _ _ _ hc))
theorem past_frozen {w w' : World} {o : Obj} (h : Below (w.alloc o).heap.size (w.alloc o) w') {c : Nat} (hc : c < w.heap.size) (off : Nat) : w'.frozen? ⟨c, off, none⟩ = w.frozen? ⟨c, off, none⟩ :=
  (h.frozen (p := ⟨c, off, none⟩) (by simp; omega)).trans (World.frozen?_of_block (Below.heap_alloc _ _ _ hc))

attribute [local go_sem ↓] Go.wp_at_zero Go.wp_at_succ
set_option maxRecDepth 100000 in
set_option maxHeartbeats 4000000 in
theorem setCalls {S : Nat → Prop} (v : Value) (l : List PFact) (w : World) (h : RdFacts S w v l) (n1 : l.length ≤ 1073741824) (n2 : ∀ x ∈ l, x.args.length ≤ 1073741824) :
    Calls Try.prog 22 #[v] w fun e w' => e = .returned (.agg #[.int .i64 (setF l).1, .int .i64 (setF l).2]) ∧ Below w.heap.size w w' := by
  obtain ⟨a, c, rfl, -, -, -⟩ := id h.form
  have H := Lib.hid h
  have N2 := Lib.hid n2
  clear h n2
  by_cases hmany : 200 < l.length
  · have hs := setF_many hmany
    obtain ⟨q, hq⟩ : ∃ q, setF l = q := ⟨_, rfl⟩
    rw [hq] at hs ⊢
    subst hs
    have i1 : (200 : Int) < (l.length : Int) := by omega
    go_enter Try.func22, Try.ntmps22
    go_wp2
    refine bodyPost_ret (v := .agg #[.int .i64 5, .int .i64 0]) (by simp [results, Try.results22, go_sem]) rfl ⟨rfl, ?_⟩
    exact (Below.refl _ _).alloc (Nat.le_refl _) _
  · have i0 : ¬ ((200 : Int) < (l.length : Int)) := by omega
    go_enter Try.func22, Try.ntmps22
    go_wp2
    have c0 : (w.alloc (.cells #[.int .i64 0, .int .i64 0] 60)).cell? ⟨w.heap.size, 0, none⟩ = some (.int .i64 0) := by simp
    have c1 : (w.alloc (.cells #[.int .i64 0, .int .i64 0] 60)).cell? ⟨w.heap.size, 1, none⟩ = some (.int .i64 0) := by simp
    have f0 : (w.alloc (.cells #[.int .i64 0, .int .i64 0] 60)).frozen? ⟨w.heap.size, 0, none⟩ = false := by simp
    have f1 : (w.alloc (.cells #[.int .i64 0, .int .i64 0] 60)).frozen? ⟨w.heap.size, 1, none⟩ = false := by simp
    have hz0 : w.heap.size < (w.alloc (.cells #[.int .i64 0, .int .i64 0] 60)).heap.size := by simp
    have HB := Lib.hid ((Below.refl w.heap.size w).alloc (Nat.le_refl _) (.cells #[.int .i64 0, .int .i64 0] 60))
    generalize w.alloc (.cells #[.int .i64 0, .int .i64 0] 60) = w0 at *
    go_loopw [12] (fun i wr => ∃ k : Nat, k ≤ l.length ∧ i = .int .i64 k ∧ Hid (Below w.heap.size w wr) ∧ w.heap.size < wr.heap.size ∧ Hid (∀ j, j < k → badAt l j = 0) ∧ wr.cell? ⟨w.heap.size, 0, none⟩ = some (.int .i64 0) ∧ wr.cell? ⟨w.heap.size, 1, none⟩ = some (.int .i64 0) ∧ wr.frozen? ⟨w.heap.size, 0, none⟩ = false ∧ wr.frozen? ⟨w.heap.size, 1, none⟩ = false) (fun i _ => l.length - (intOf i).toNat)
    case atStart => exact ⟨0, Nat.zero_le _, rfl, HB, hz0, fun j hj => by omega, c0, c1, f0, f1⟩
    case round =>
      obtain ⟨k, hk, rfl, HB, hsz, HZ, c0, c1, f0, f1⟩ := hrel
      by_cases hlt : k < l.length
      · obtain ⟨x, hx⟩ : ∃ x, l[k]? = some x := ⟨_, List.getElem?_eq_getElem hlt⟩
        have hn2 : x.args.length ≤ 1073741824 := N2.out x (List.mem_of_getElem? hx)
        obtain ⟨b1, o1, av, rfl, -, hb1, hc1, hc2, hav⟩ := RdFacts.at ((H.out.more RFact.steady (S' := fun _ => True) (fun _ _ _ => trivial)).agree RFact.steady (Below.agree HB.out)) hx
        obtain ⟨aa, ac, rfl, -, -, -⟩ := id hav.form
        have HA := Lib.hid hav
        have HX := Lib.hid hx
        have hW := wrongFact x _ (wr.alloc (.cells #[.string x.name, .slice aa x.args.length ac] 41)) (hav.agree RStr.steady ((Agree.refl _ _).alloc _)) (by omega)
        clear hav hx
        by_cases hz : wrongF x = 0
        · rw [hz] at hW
          have HW := Lib.hid hW
          have HZX := Lib.hid hz
          clear hW hz
          rcases k with _ | j
          · have z0 : ((0 : Nat) : Int) = 0 := rfl
            have HBZ := Lib.hid (badAt_zero HX.out HZX.out)
            have HZ1 := Lib.hid (show ∀ j, j < 1 → badAt l j = 0 from fun j hj => (show j = 0 by omega) ▸ HBZ.out)
            simp only [Nat.zero_mul, Nat.add_zero] at hc1 hc2
            rw [z0]
            go_wp2_with (go_at_call 39; refine (HW.out).mono ?_; rintro e w1 ⟨rfl, hf1⟩; have d0 := (past_cell hf1.below hsz 0).trans c0; have d1 := (past_cell hf1.below hsz 1).trans c1; have g0 := (past_frozen hf1.below hsz 0).trans f0; have g1 := (past_frozen hf1.below hsz 1).trans f1; have HB1 := Lib.hid ((HB.out.alloc (Nat.le_of_lt hsz) _).trans (hf1.below.mono (by simp; omega))); have hs1 : w.heap.size < w1.heap.size := (by have := hf1.below.size; simp at this; omega); clear hf1)
            go_quiet (fail)
            go_wp2
            go_roundw
            case rel => exact ⟨1, by omega, by go_num, Lib.hid ⟨HB1.out.os, HB1.out.tape, HB1.out.output, HB1.out.size, HB1.out.block⟩, hs1, HZ1, d0, d1, g0, g1⟩
            case measure => simp [intOf]; omega
          · obtain ⟨y, hy⟩ : ∃ y, l[j]? = some y := ⟨_, List.getElem?_eq_getElem (by omega)⟩
            have hn2y : y.args.length ≤ 1073741824 := N2.out y (List.mem_of_getElem? hy)
            obtain ⟨b2, o2, yv, e2, -, -, hd1, hd2, hyv⟩ := RdFacts.at ((H.out.more RFact.steady (S' := fun _ => True) (fun _ _ _ => trivial)).agree RFact.steady (Below.agree HB.out)) hy
            injection e2 with e2; injection e2 with e2 e2' _
            subst e2 e2'
            obtain ⟨ya, yc, rfl, -, -, -⟩ := id hyv.form
            have HY := Lib.hid hyv
            have HBS := Lib.hid (badAt_succ HX.out hy HZX.out)
            have i1 : (0 : Int) ≤ (j : Int) := by omega
            have i2 : (j : Int) + 1 < (l.length : Int) := by omega
            have i3 : (j : Int) < (l.length : Int) := by omega
            have i4 : (0 : Int) ≤ (j : Int) + 1 := by omega
            have i5 : IntKind.i64.wrap (j : Int) = j := by rw [IntKind.wrap_i64]; omega
            have i6 : (0 : Int) < (j : Int) + 1 := by omega
            have e1 : ((j + 1 : Nat) : Int) = (j : Int) + 1 := by omega
            have K := Lib.hid (fun W (ha : Agree (fun _ => True) wr W) => compareFact y x (.slice ya y.args.length yc) (.slice aa x.args.length ac) W (HY.out.agree RStr.steady ha) (HA.out.agree RStr.steady ha) hn2y)
            clear hyv hy
            obtain ⟨q, hq⟩ : ∃ q, cmpFact y x = q := ⟨_, rfl⟩
            rw [hq] at K HBS
            clear hq
            rw [e1]
            by_cases hlt2 : q < 0
            · have HL := Lib.hid hlt2
              have hq0 : (0 ≤ q) = False := by simp; omega
              clear hlt2
              go_wp2_with (go_at_call 39; refine (HW.out).mono ?_; rintro e w1 ⟨rfl, hf1⟩; have d0 := (past_cell hf1.below hsz 0).trans c0; have d1 := (past_cell hf1.below hsz 1).trans c1; have g0 := (past_frozen hf1.below hsz 0).trans f0; have g1 := (past_frozen hf1.below hsz 1).trans f1; have HB1 := Lib.hid ((HB.out.alloc (Nat.le_of_lt hsz) _).trans (hf1.below.mono (by simp; omega))); have hs1 : w.heap.size < w1.heap.size := (by have := hf1.below.size; simp at this; omega); have hx0 : w1.cell? ⟨wr.heap.size, 0, none⟩ = some (.string x.name) := (cell_below hf1.below (by simp) 0).trans (by simp); have hx1 : w1.cell? ⟨wr.heap.size, 1, none⟩ = some (.slice aa x.args.length ac) := (cell_below hf1.below (by simp) 1).trans (by simp); have hsx : wr.heap.size < w1.heap.size := (by have := hf1.below.size; simp at this; omega); have hb2 : b1 < w1.heap.size := (by omega); have hy0 := (past_cell hf1.below hb1 (o1 + j * 2)).trans hd1; have hy1 := (past_cell hf1.below hb1 (o1 + j * 2 + 1)).trans hd2; have HAG := Lib.hid (show Agree (fun _ => True) wr w1 from ((Agree.refl _ _).alloc _).trans (Below.agree hf1.below)); clear hf1)
              go_region_held3 (fun w' => w'.cell? ⟨b1, o1 + j * 2, none⟩ = some (.string y.name) ∧ w'.cell? ⟨b1, o1 + j * 2 + 1, none⟩ = some (.slice ya y.args.length yc) ∧
                  w'.cell? ⟨wr.heap.size, 0, none⟩ = some (.string x.name) ∧ w'.cell? ⟨wr.heap.size, 1, none⟩ = some (.slice aa x.args.length ac))
                (first | (refine ⟨?_, ?_, ?_, ?_⟩ <;> (first | (rw [hk2 _ hb2]; assumption) | (rw [hk2 _ hsx]; assumption))) | go_keep)
                (first
                  | (go_at_call 36; refine (K.out _ HAG.out.drew).mono ?_; rintro e w2 ⟨rfl, hf2⟩; have hk2 : ∀ c, c < w1.heap.size → ∀ off, w2.cell? ⟨c, off, none⟩ = w1.cell? ⟨c, off, none⟩ := fun c hc off => cell_below (w := w1.drew) hf2.below hc off))
              have HB2 := Lib.hid (HB1.out.drew.trans (hf2.below.mono HB1.out.size))
              have m0 := (hk2 _ hs1 0).trans d0
              have m1 := (hk2 _ hs1 1).trans d1
              have m2 := (hf2.below.frozen (p := ⟨w.heap.size, 0, none⟩) hs1).trans g0
              have m3 := (hf2.below.frozen (p := ⟨w.heap.size, 1, none⟩) hs1).trans g1
              have hs2 : w.heap.size < w2.heap.size := Nat.lt_of_lt_of_le hs1 hf2.below.size
              clear hf2 hk2 hx0 hx1 hy0 hy1
              go_wp2
              go_roundw
              case rel =>
                refine ⟨j + 1 + 1, by omega, by go_num, HB2.out, hs2, fun i hi => ?_, m0, m1, m2, m3⟩
                by_cases e : i = j + 1
                · subst e; rw [HBS.out, if_pos HL.out]
                · exact HZ.out i (by omega)
              case measure => simp [intOf]; omega
            · have HL := Lib.hid hlt2
              have hq0 : (0 ≤ q) = True := by simp; omega
              have hs := setF_at hmany hlt HZ.out (by rw [HBS.out, if_neg HL.out]; decide)
              rw [HBS.out, if_neg HL.out] at hs
              have HS := Lib.hid hs
              clear hlt2 hs
              go_wp2_with (go_at_call 39; refine (HW.out).mono ?_; rintro e w1 ⟨rfl, hf1⟩; have d0 := (past_cell hf1.below hsz 0).trans c0; have d1 := (past_cell hf1.below hsz 1).trans c1; have g0 := (past_frozen hf1.below hsz 0).trans f0; have g1 := (past_frozen hf1.below hsz 1).trans f1; have HB1 := Lib.hid ((HB.out.alloc (Nat.le_of_lt hsz) _).trans (hf1.below.mono (by simp; omega))); have hs1 : w.heap.size < w1.heap.size := (by have := hf1.below.size; simp at this; omega); have hx0 : w1.cell? ⟨wr.heap.size, 0, none⟩ = some (.string x.name) := (cell_below hf1.below (by simp) 0).trans (by simp); have hx1 : w1.cell? ⟨wr.heap.size, 1, none⟩ = some (.slice aa x.args.length ac) := (cell_below hf1.below (by simp) 1).trans (by simp); have hsx : wr.heap.size < w1.heap.size := (by have := hf1.below.size; simp at this; omega); have hb2 : b1 < w1.heap.size := (by omega); have hy0 := (past_cell hf1.below hb1 (o1 + j * 2)).trans hd1; have hy1 := (past_cell hf1.below hb1 (o1 + j * 2 + 1)).trans hd2; have HAG := Lib.hid (show Agree (fun _ => True) wr w1 from ((Agree.refl _ _).alloc _).trans (Below.agree hf1.below)); clear hf1)
              go_region_held3 (fun w' => w'.cell? ⟨b1, o1 + j * 2, none⟩ = some (.string y.name) ∧ w'.cell? ⟨b1, o1 + j * 2 + 1, none⟩ = some (.slice ya y.args.length yc) ∧
                  w'.cell? ⟨wr.heap.size, 0, none⟩ = some (.string x.name) ∧ w'.cell? ⟨wr.heap.size, 1, none⟩ = some (.slice aa x.args.length ac))
                (first | (refine ⟨?_, ?_, ?_, ?_⟩ <;> (first | (rw [hk2 _ hb2]; assumption) | (rw [hk2 _ hsx]; assumption))) | go_keep)
                (first
                  | (go_at_call 36; refine (K.out _ HAG.out.drew).mono ?_; rintro e w2 ⟨rfl, hf2⟩; have hk2 : ∀ c, c < w1.heap.size → ∀ off, w2.cell? ⟨c, off, none⟩ = w1.cell? ⟨c, off, none⟩ := fun c hc off => cell_below (w := w1.drew) hf2.below hc off))
              have HB2 := Lib.hid (HB1.out.drew.trans (hf2.below.mono HB1.out.size))
              have m0 := (hk2 _ hs1 0).trans d0
              have m1 := (hk2 _ hs1 1).trans d1
              have m2 := (hf2.below.frozen (p := ⟨w.heap.size, 0, none⟩) hs1).trans g0
              have m3 := (hf2.below.frozen (p := ⟨w.heap.size, 1, none⟩) hs1).trans g1
              clear hf2 hk2 hx0 hx1 hy0 hy1
              go_wp2
              refine bodyPost_ret (v := .agg #[.int .i64 2, .int .i64 ((j + 1 : Nat) : Int)]) (by simp [results, Try.results22, go_sem, m0, m1]) rfl ⟨by rw [HS.out], ?_⟩
              exact (HB2.out.setCell (Nat.le_refl _) _).setCell (Nat.le_refl _) _
        · have hne : (wrongF x != 0) = true := by simpa using hz
          have hs := setF_at hmany hlt HZ.out (by rw [badAt_wrong HX.out hz]; exact hz)
          rw [badAt_wrong HX.out hz] at hs
          have HS := Lib.hid hs
          have HW := Lib.hid hW
          clear hs hW
          generalize wrongF x = q at *
          go_wp2_with (go_at_call 39; refine (HW.out).mono ?_; rintro e w1 ⟨rfl, hf1⟩; have d0 := (past_cell hf1.below hsz 0).trans c0; have d1 := (past_cell hf1.below hsz 1).trans c1; have g0 := (past_frozen hf1.below hsz 0).trans f0; have g1 := (past_frozen hf1.below hsz 1).trans f1; have HB1 := Lib.hid ((HB.out.alloc (Nat.le_of_lt hsz) _).trans (hf1.below.mono (by simp; omega))); clear hf1)
          refine bodyPost_ret (v := .agg #[.int .i64 q, .int .i64 k]) (by simp [results, Try.results22, go_sem, d0, d1]) rfl ⟨by rw [HS.out], ?_⟩
          exact (HB1.out.setCell (Nat.le_refl _) _).setCell (Nat.le_refl _) _
      · have HS := Lib.hid (setF_ok hmany (fun j hj => HZ.out j (by omega)))
        go_wp2
        refine bodyPost_ret (v := .agg #[.int .i64 0, .int .i64 0]) (by simp [results, Try.results22, go_sem, c0, c1]) rfl ⟨by rw [HS.out], ?_⟩
        exact (HB.out.setCell (Nat.le_refl _) _).setCell (Nat.le_refl _) _
end Go.Proofs.Ytmnpneandkiblaa
