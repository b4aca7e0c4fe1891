/-
  THE TEXTS SetW, MatchL, MatchN, BindW, one behind the other.
-/
import Derived.Test.YthieomebngiabaaPk2
import Derived.Test.YthieomebngiabaaPk3
namespace Go.Proofs.Ythieomebngiabaa
open Go.RowKit
def badAt (l : List PFact) (i : Nat) : Int :=
  match l[i]? with
  | none => 0
  | some f => if wrongF f ≠ 0 then wrongF f else match i with
    | 0 => 0
    | j + 1 => match l[j]? with
      | none => 0
      | some g => if cmpFact g f < 0 then 0 else 2
def setF (l : List PFact) : Int × Int :=
  if 200 < l.length then (5, 0) else match (List.range l.length).find? (fun i => badAt l i != 0) with
    | none => (0, 0)
    | some i => (badAt l i, (i : Int))
theorem setF_many {l : List PFact} (h : 200 < l.length) : setF l = (5, 0) := by simp [setF, h]
theorem setF_at {l : List PFact} (h : ¬ 200 < l.length) {i : Nat} (hi : i < l.length) (h0 : ∀ j, j < i → badAt l j = 0) (hb : badAt l i ≠ 0) : setF l = (badAt l i, (i : Int)) := by
  have : (List.range l.length).find? (fun i => badAt l i != 0) = some i := by
    rw [List.find?_range_eq_some]
    refine ⟨by simpa using hb, by simpa using hi, fun j hj => by simp [h0 j hj]⟩
  simp [setF, h, this]
theorem setF_ok {l : List PFact} (h : ¬ 200 < l.length) (h0 : ∀ j, j < l.length → badAt l j = 0) : setF l = (0, 0) := by
  have : (List.range l.length).find? (fun i => badAt l i != 0) = none := by
    rw [List.find?_range_eq_none]
    intro j hj; simp [h0 j (by simpa using hj)]
  simp [setF, h, this]
theorem badAt_wrong {l : List PFact} {i : Nat} {f : PFact} (h : l[i]? = some f) (hw : wrongF f ≠ 0) : badAt l i = wrongF f := by simp [badAt, h, hw]
theorem badAt_zero {l : List PFact} {f : PFact} (h : l[0]? = some f) (hw : wrongF f = 0) : badAt l 0 = 0 := by simp [badAt, h, hw]
theorem badAt_succ {l : List PFact} {i : Nat} {f g : PFact} (h : l[i + 1]? = some f) (k : l[i]? = some g) (hw : wrongF f = 0) : badAt l (i + 1) = if cmpFact g f < 0 then 0 else 2 := by simp [badAt, h, k, hw]
theorem past_cell {w w' : World} {o : Obj} (h : Below (w.alloc o).heap.size (w.alloc o) w') {c : Nat} (hc : c < w.heap.size) (off : Nat) : w'.cell? ⟨c, off, none⟩ = w.cell? ⟨c, off, none⟩ :=
  (cell_below h (by simp; omega) off).trans (World.cell?_of_block (Below.heap_alloc _ _ _ hc))
theorem past_frozen {w w' : World} {o : Obj} (h : Below (w.alloc o).heap.size (w.alloc o) w') {c : Nat} (hc : c < w.heap.size) (off : Nat) : w'.frozen? ⟨c, off, none⟩ = w.frozen? ⟨c, off, none⟩ :=
  (h.frozen (p := ⟨c, off, none⟩) (by simp; omega)).trans (World.frozen?_of_block (Below.heap_alloc _ _ _ hc))
attribute [local go_sem ↓] Go.wp_at_zero Go.wp_at_succ
set_option maxRecDepth 100000 in
set_option maxHeartbeats 4000000 in
theorem setCalls {S : Nat → Prop} (v : Value) (l : List PFact) (w : World) (h : RdFacts S w v l) (n1 : l.length ≤ 1073741824) (n2 : ∀ x ∈ l, x.args.length ≤ 1073741824) :
    Calls Try.prog 15 #[v] w fun e w' => e = .returned (.agg #[.int .i64 (setF l).1, .int .i64 (setF l).2]) ∧ Below w.heap.size w w' := by
  obtain ⟨a, c, rfl, -, -, -⟩ := id h.form
  have H := Lib.hid h
  have N2 := Lib.hid n2
  clear h n2
  by_cases hmany : 200 < l.length
  · have hs := setF_many hmany
    obtain ⟨q, hq⟩ : ∃ q, setF l = q := ⟨_, rfl⟩
    rw [hq] at hs ⊢
    subst hs
    have i1 : (200 : Int) < (l.length : Int) := by omega
    go_enter Try.func15, Try.ntmps15
    go_wp2
    refine bodyPost_ret (v := .agg #[.int .i64 5, .int .i64 0]) (by simp [results, Try.results15, go_sem]) rfl ⟨rfl, ?_⟩
    exact (Below.refl _ _).alloc (Nat.le_refl _) _
  · have i0 : ¬ ((200 : Int) < (l.length : Int)) := by omega
    go_enter Try.func15, Try.ntmps15
    go_wp2
    have c0 : (w.alloc (.cells #[.int .i64 0, .int .i64 0] 54)).cell? ⟨w.heap.size, 0, none⟩ = some (.int .i64 0) := by simp
    have c1 : (w.alloc (.cells #[.int .i64 0, .int .i64 0] 54)).cell? ⟨w.heap.size, 1, none⟩ = some (.int .i64 0) := by simp
    have f0 : (w.alloc (.cells #[.int .i64 0, .int .i64 0] 54)).frozen? ⟨w.heap.size, 0, none⟩ = false := by simp
    have f1 : (w.alloc (.cells #[.int .i64 0, .int .i64 0] 54)).frozen? ⟨w.heap.size, 1, none⟩ = false := by simp
    have hz0 : w.heap.size < (w.alloc (.cells #[.int .i64 0, .int .i64 0] 54)).heap.size := by simp
    have HB := Lib.hid ((Below.refl w.heap.size w).alloc (Nat.le_refl _) (.cells #[.int .i64 0, .int .i64 0] 54))
    generalize w.alloc (.cells #[.int .i64 0, .int .i64 0] 54) = w0 at *
    go_loopw [12] (fun i wr => ∃ k : Nat, k ≤ l.length ∧ i = .int .i64 k ∧ Hid (Below w.heap.size w wr) ∧ w.heap.size < wr.heap.size ∧ Hid (∀ j, j < k → badAt l j = 0) ∧ wr.cell? ⟨w.heap.size, 0, none⟩ = some (.int .i64 0) ∧ wr.cell? ⟨w.heap.size, 1, none⟩ = some (.int .i64 0) ∧ wr.frozen? ⟨w.heap.size, 0, none⟩ = false ∧ wr.frozen? ⟨w.heap.size, 1, none⟩ = false) (fun i _ => l.length - (intOf i).toNat)
    case atStart => exact ⟨0, Nat.zero_le _, rfl, HB, hz0, fun j hj => by omega, c0, c1, f0, f1⟩
    case round =>
      obtain ⟨k, hk, rfl, HB, hsz, HZ, c0, c1, f0, f1⟩ := hrel
      by_cases hlt : k < l.length
      · obtain ⟨x, hx⟩ : ∃ x, l[k]? = some x := ⟨_, List.getElem?_eq_getElem hlt⟩
        have hn2 : x.args.length ≤ 1073741824 := N2.out x (List.mem_of_getElem? hx)
        obtain ⟨b1, o1, av, rfl, -, hb1, hc1, hc2, hav⟩ := RdFacts.at ((H.out.more RFact.steady (S' := fun _ => True) (fun _ _ _ => trivial)).agree RFact.steady (Below.agree HB.out)) hx
        obtain ⟨aa, ac, rfl, -, -, -⟩ := id hav.form
        have HA := Lib.hid hav
        have HX := Lib.hid hx
        have hW := wrongFact x _ (wr.alloc (.cells #[.string x.name, .slice aa x.args.length ac] 41)) (hav.agree RStr.steady ((Agree.refl _ _).alloc _)) (by omega)
        clear hav hx
        by_cases hz : wrongF x = 0
        · rw [hz] at hW
          have HW := Lib.hid hW
          have HZX := Lib.hid hz
          clear hW hz
          rcases k with _ | j
          · have z0 : ((0 : Nat) : Int) = 0 := rfl
            have HBZ := Lib.hid (badAt_zero HX.out HZX.out)
            have HZ1 := Lib.hid (show ∀ j, j < 1 → badAt l j = 0 from fun j hj => (show j = 0 by omega) ▸ HBZ.out)
            simp only [Nat.zero_mul, Nat.add_zero] at hc1 hc2
            rw [z0]
            go_wp2_with (go_at_call 32; refine (HW.out).mono ?_; rintro e w1 ⟨rfl, hf1⟩; have d0 := (past_cell hf1.below hsz 0).trans c0; have d1 := (past_cell hf1.below hsz 1).trans c1; have g0 := (past_frozen hf1.below hsz 0).trans f0; have g1 := (past_frozen hf1.below hsz 1).trans f1; have HB1 := Lib.hid ((HB.out.alloc (Nat.le_of_lt hsz) _).trans (hf1.below.mono (by simp; omega))); have hs1 : w.heap.size < w1.heap.size := (by have := hf1.below.size; simp at this; omega); clear hf1)
            go_quiet (fail)
            go_wp2
            go_roundw
            case rel => exact ⟨1, by omega, by go_num, Lib.hid ⟨HB1.out.os, HB1.out.tape, HB1.out.output, HB1.out.size, HB1.out.block⟩, hs1, HZ1, d0, d1, g0, g1⟩
            case measure => simp [intOf]; omega
          · obtain ⟨y, hy⟩ : ∃ y, l[j]? = some y := ⟨_, List.getElem?_eq_getElem (by omega)⟩
            have hn2y : y.args.length ≤ 1073741824 := N2.out y (List.mem_of_getElem? hy)
            obtain ⟨b2, o2, yv, e2, -, -, hd1, hd2, hyv⟩ := RdFacts.at ((H.out.more RFact.steady (S' := fun _ => True) (fun _ _ _ => trivial)).agree RFact.steady (Below.agree HB.out)) hy
            injection e2 with e2; injection e2 with e2 e2' _
            subst e2 e2'
            obtain ⟨ya, yc, rfl, -, -, -⟩ := id hyv.form
            have HY := Lib.hid hyv
            have HBS := Lib.hid (badAt_succ HX.out hy HZX.out)
            have i1 : (0 : Int) ≤ (j : Int) := by omega
            have i2 : (j : Int) + 1 < (l.length : Int) := by omega
            have i3 : (j : Int) < (l.length : Int) := by omega
            have i4 : (0 : Int) ≤ (j : Int) + 1 := by omega
            have i5 : IntKind.i64.wrap (j : Int) = j := by rw [IntKind.wrap_i64]; omega
            have i6 : (0 : Int) < (j : Int) + 1 := by omega
            have e1 : ((j + 1 : Nat) : Int) = (j : Int) + 1 := by omega
            have K := Lib.hid (fun W (ha : Agree (fun _ => True) wr W) => compareFact y x (.slice ya y.args.length yc) (.slice aa x.args.length ac) W (HY.out.agree RStr.steady ha) (HA.out.agree RStr.steady ha) hn2y)
            clear hyv hy
            obtain ⟨q, hq⟩ : ∃ q, cmpFact y x = q := ⟨_, rfl⟩
            rw [hq] at K HBS
            clear hq
            rw [e1]
            by_cases hlt2 : q < 0
            · have HL := Lib.hid hlt2
              have hq0 : (0 ≤ q) = False := by simp; omega
              clear hlt2
              go_wp2_with (go_at_call 32; refine (HW.out).mono ?_; rintro e w1 ⟨rfl, hf1⟩; have d0 := (past_cell hf1.below hsz 0).trans c0; have d1 := (past_cell hf1.below hsz 1).trans c1; have g0 := (past_frozen hf1.below hsz 0).trans f0; have g1 := (past_frozen hf1.below hsz 1).trans f1; have HB1 := Lib.hid ((HB.out.alloc (Nat.le_of_lt hsz) _).trans (hf1.below.mono (by simp; omega))); have hs1 : w.heap.size < w1.heap.size := (by have := hf1.below.size; simp at this; omega); have hx0 : w1.cell? ⟨wr.heap.size, 0, none⟩ = some (.string x.name) := (cell_below hf1.below (by simp) 0).trans (by simp); have hx1 : w1.cell? ⟨wr.heap.size, 1, none⟩ = some (.slice aa x.args.length ac) := (cell_below hf1.below (by simp) 1).trans (by simp); have hsx : wr.heap.size < w1.heap.size := (by have := hf1.below.size; simp at this; omega); have hb2 : b1 < w1.heap.size := (by omega); have hy0 := (past_cell hf1.below hb1 (o1 + j * 2)).trans hd1; have hy1 := (past_cell hf1.below hb1 (o1 + j * 2 + 1)).trans hd2; have HAG := Lib.hid (show Agree (fun _ => True) wr w1 from ((Agree.refl _ _).alloc _).trans (Below.agree hf1.below)); clear hf1)
              go_region_held3 (fun w' => w'.cell? ⟨b1, o1 + j * 2, none⟩ = some (.string y.name) ∧ w'.cell? ⟨b1, o1 + j * 2 + 1, none⟩ = some (.slice ya y.args.length yc) ∧
                  w'.cell? ⟨wr.heap.size, 0, none⟩ = some (.string x.name) ∧ w'.cell? ⟨wr.heap.size, 1, none⟩ = some (.slice aa x.args.length ac))
                (first | (refine ⟨?_, ?_, ?_, ?_⟩ <;> (first | (rw [hk2 _ hb2]; assumption) | (rw [hk2 _ hsx]; assumption))) | go_keep)
                (first
                  | (go_at_call 33; refine (K.out _ HAG.out.drew).mono ?_; rintro e w2 ⟨rfl, hf2⟩; have hk2 : ∀ c, c < w1.heap.size → ∀ off, w2.cell? ⟨c, off, none⟩ = w1.cell? ⟨c, off, none⟩ := fun c hc off => cell_below (w := w1.drew) hf2.below hc off))
              have HB2 := Lib.hid (HB1.out.drew.trans (hf2.below.mono HB1.out.size))
              have m0 := (hk2 _ hs1 0).trans d0
              have m1 := (hk2 _ hs1 1).trans d1
              have m2 := (hf2.below.frozen (p := ⟨w.heap.size, 0, none⟩) hs1).trans g0
              have m3 := (hf2.below.frozen (p := ⟨w.heap.size, 1, none⟩) hs1).trans g1
              have hs2 : w.heap.size < w2.heap.size := Nat.lt_of_lt_of_le hs1 hf2.below.size
              clear hf2 hk2 hx0 hx1 hy0 hy1
              go_wp2
              go_roundw
              case rel =>
                refine ⟨j + 1 + 1, by omega, by go_num, HB2.out, hs2, fun i hi => ?_, m0, m1, m2, m3⟩
                by_cases e : i = j + 1
                · subst e; rw [HBS.out, if_pos HL.out]
                · exact HZ.out i (by omega)
              case measure => simp [intOf]; omega
            · have HL := Lib.hid hlt2
              have hq0 : (0 ≤ q) = True := by simp; omega
              have hs := setF_at hmany hlt HZ.out (by rw [HBS.out, if_neg HL.out]; decide)
              rw [HBS.out, if_neg HL.out] at hs
              have HS := Lib.hid hs
              clear hlt2 hs
              go_wp2_with (go_at_call 32; refine (HW.out).mono ?_; rintro e w1 ⟨rfl, hf1⟩; have d0 := (past_cell hf1.below hsz 0).trans c0; have d1 := (past_cell hf1.below hsz 1).trans c1; have g0 := (past_frozen hf1.below hsz 0).trans f0; have g1 := (past_frozen hf1.below hsz 1).trans f1; have HB1 := Lib.hid ((HB.out.alloc (Nat.le_of_lt hsz) _).trans (hf1.below.mono (by simp; omega))); have hs1 : w.heap.size < w1.heap.size := (by have := hf1.below.size; simp at this; omega); have hx0 : w1.cell? ⟨wr.heap.size, 0, none⟩ = some (.string x.name) := (cell_below hf1.below (by simp) 0).trans (by simp); have hx1 : w1.cell? ⟨wr.heap.size, 1, none⟩ = some (.slice aa x.args.length ac) := (cell_below hf1.below (by simp) 1).trans (by simp); have hsx : wr.heap.size < w1.heap.size := (by have := hf1.below.size; simp at this; omega); have hb2 : b1 < w1.heap.size := (by omega); have hy0 := (past_cell hf1.below hb1 (o1 + j * 2)).trans hd1; have hy1 := (past_cell hf1.below hb1 (o1 + j * 2 + 1)).trans hd2; have HAG := Lib.hid (show Agree (fun _ => True) wr w1 from ((Agree.refl _ _).alloc _).trans (Below.agree hf1.below)); clear hf1)
              go_region_held3 (fun w' => w'.cell? ⟨b1, o1 + j * 2, none⟩ = some (.string y.name) ∧ w'.cell? ⟨b1, o1 + j * 2 + 1, none⟩ = some (.slice ya y.args.length yc) ∧
                  w'.cell? ⟨wr.heap.size, 0, none⟩ = some (.string x.name) ∧ w'.cell? ⟨wr.heap.size, 1, none⟩ = some (.slice aa x.args.length ac))
                (first | (refine ⟨?_, ?_, ?_, ?_⟩ <;> (first | (rw [hk2 _ hb2]; assumption) | (rw [hk2 _ hsx]; assumption))) | go_keep)
                (first
                  | (go_at_call 33; refine (K.out _ HAG.out.drew).mono ?_; rintro e w2 ⟨rfl, hf2⟩; have hk2 : ∀ c, c < w1.heap.size → ∀ off, w2.cell? ⟨c, off, none⟩ = w1.cell? ⟨c, off, none⟩ := fun c hc off => cell_below (w := w1.drew) hf2.below hc off))
              have HB2 := Lib.hid (HB1.out.drew.trans (hf2.below.mono HB1.out.size))
              have m0 := (hk2 _ hs1 0).trans d0
              have m1 := (hk2 _ hs1 1).trans d1
              have m2 := (hf2.below.frozen (p := ⟨w.heap.size, 0, none⟩) hs1).trans g0
              have m3 := (hf2.below.frozen (p := ⟨w.heap.size, 1, none⟩) hs1).trans g1
              clear hf2 hk2 hx0 hx1 hy0 hy1
              go_wp2
              refine bodyPost_ret (v := .agg #[.int .i64 2, .int .i64 ((j + 1 : Nat) : Int)]) (by simp [results, Try.results15, go_sem, m0, m1]) rfl ⟨by rw [HS.out], ?_⟩
              exact (HB2.out.setCell (Nat.le_refl _) _).setCell (Nat.le_refl _) _
        · have hne : (wrongF x != 0) = true := by simpa using hz
          have hs := setF_at hmany hlt HZ.out (by rw [badAt_wrong HX.out hz]; exact hz)
          rw [badAt_wrong HX.out hz] at hs
          have HS := Lib.hid hs
          have HW := Lib.hid hW
          clear hs hW
          generalize wrongF x = q at *
          go_wp2_with (go_at_call 32; refine (HW.out).mono ?_; rintro e w1 ⟨rfl, hf1⟩; have d0 := (past_cell hf1.below hsz 0).trans c0; have d1 := (past_cell hf1.below hsz 1).trans c1; have g0 := (past_frozen hf1.below hsz 0).trans f0; have g1 := (past_frozen hf1.below hsz 1).trans f1; have HB1 := Lib.hid ((HB.out.alloc (Nat.le_of_lt hsz) _).trans (hf1.below.mono (by simp; omega))); clear hf1)
          refine bodyPost_ret (v := .agg #[.int .i64 q, .int .i64 k]) (by simp [results, Try.results15, go_sem, d0, d1]) rfl ⟨by rw [HS.out], ?_⟩
          exact (HB1.out.setCell (Nat.le_refl _) _).setCell (Nat.le_refl _) _
      · have HS := Lib.hid (setF_ok hmany (fun j hj => HZ.out j (by omega)))
        go_wp2
        refine bodyPost_ret (v := .agg #[.int .i64 0, .int .i64 0]) (by simp [results, Try.results15, go_sem, c0, c1]) rfl ⟨by rw [HS.out], ?_⟩
        exact (HB.out.setCell (Nat.le_refl _) _).setCell (Nat.le_refl _) _
end Go.Proofs.Ythieomebngiabaa
namespace Go.Proofs.Ythieomebngiabaa
def pickP (facts other : List PFact) (at' : Int) (i : Nat) : List PFact := if (i : Int) = at' then other else facts
def withP (body : List PAtom) (facts : List PFact) (at' : Int) (other : List PFact) : List Binds × Int :=
  if bodyBad body ≠ 0 then ([], bodyBad body)
  else if (setF facts).1 ≠ 0 then ([], (setF facts).1)
  else if (setF other).1 ≠ 0 then ([], (setF other).1)
  else match goP (pickP facts other at') 0 [[]] body with
    | none => ([], 4)
    | some ls => (tidyP (notP (pickP facts other at') 0 ls body), 0)
def allP (body : List PAtom) (facts : List PFact) : List Binds × Int := withP body facts (-1) []
theorem setF_zero {l : List PFact} (h : (setF l).1 = 0) : l.length ≤ 200 ∧ ∀ i, i < l.length → badAt l i = 0 := by
  by_cases h1 : 200 < l.length
  · rw [setF_many h1] at h; exact absurd h (by decide)
  · refine ⟨by omega, fun i hi => Classical.byContradiction fun hb => ?_⟩
    unfold setF at h
    rw [if_neg h1] at h
    cases hf : (List.range l.length).find? (fun i => badAt l i != 0) with
    | none =>
      rw [List.find?_range_eq_none] at hf
      have := hf i (by simpa using hi)
      simp at this
      exact hb this
    | some j =>
      rw [hf] at h
      rw [List.find?_range_eq_some] at hf
      have := hf.1
      simp at this
      exact this h
theorem setF_set {l : List PFact} (h : (setF l).1 = 0) : l.length ≤ 200 ∧ Rising l ∧ ∀ f ∈ l, wrongF f = 0 := by
  obtain ⟨h1, h2⟩ := setF_zero h
  have hw : ∀ i f, l[i]? = some f → wrongF f = 0 := fun i f hf => Classical.byContradiction fun hb => by
    have := h2 i (List.getElem?_eq_some_iff.1 hf).1
    rw [badAt_wrong hf hb] at this
    exact hb this
  have hs : ∀ i f g, l[i]? = some f → l[i + 1]? = some g → cmpFact f g < 0 := fun i f g hf hg => by
    have := h2 (i + 1) (List.getElem?_eq_some_iff.1 hg).1
    rw [badAt_succ hg hf (hw _ _ hg)] at this
    split at this
    · assumption
    · exact absurd this (by decide)
  refine ⟨h1, ?_, fun f hf => ?_⟩
  · have key : ∀ d i f g, l[i]? = some f → l[i + d + 1]? = some g → cmpFact f g < 0 := fun d => by
      induction d with
      | zero => exact fun i f g hf hg => hs i f g hf hg
      | succ d ih =>
        intro i f g hf hg
        obtain ⟨m, hm⟩ : ∃ m, l[i + d + 1]? = some m := ⟨_, List.getElem?_eq_getElem (by have := (List.getElem?_eq_some_iff.1 hg).1; omega)⟩
        exact cmpFact3.trans _ _ _ (ih i f m hf hm) (hs _ m g hm hg)
    refine List.pairwise_iff_getElem.2 fun i j hi hj hij => ?_
    simp only [ltF, decide_eq_true_eq]
    refine key (j - i - 1) i _ _ (List.getElem?_eq_getElem hi) ?_
    rw [show i + (j - i - 1) + 1 = j by omega]
    exact List.getElem?_eq_getElem hj
  · obtain ⟨i, hi⟩ := List.mem_iff_getElem?.1 hf
    exact hw i f hi
end Go.Proofs.Ythieomebngiabaa
namespace Go.Proofs.Ythieomebngiabaa
open Go.RowKit
theorem RBind.one {S : Nat → Prop} {w : World} {cs : List Value} {x : PBind} (h : RBind S w cs x) : ∀ u ∈ cs, u.oneCell' = true := by
  have h' : cs = [.string x.var, .string x.name] := h
  subst h'; simp [Value.oneCell']
theorem RBinds.one {S : Nat → Prop} {w : World} {cs : List Value} {x : Binds} (h : RBinds S w cs x) : ∀ u ∈ cs, u.oneCell' = true := by
  obtain ⟨v, rfl, hr⟩ := h
  obtain ⟨a, c, rfl, -⟩ := hr.form
  simp [Value.oneCell']
theorem rowBinds : RowT Try.prog 24 34 2 := RowT.mk' (b := 32) (z := .agg #[.string ⟨#[]⟩, .string ⟨#[]⟩]) Try.underlying24 (by kernel_rfl) (by omega) rfl (by omega)
theorem rowBindss : RowT Try.prog 25 24 1 := RowT.mk' (b := 24) (z := .slice none 0 0) Try.underlying25 (by kernel_rfl) (by omega) rfl (by omega)
abbrev VB := Value × Binds
def RPair : Reader VB := fun _ _ cs z => cs = [z.1] ∧ z.1.oneCell' = true
theorem RPair.steady : Steady RPair := ⟨fun _ h => h, fun _ h => h⟩
theorem RPair.one {S : Nat → Prop} {w : World} {cs : List Value} {x : VB} (h : RPair S w cs x) : ∀ u ∈ cs, u.oneCell' = true := by
  obtain ⟨rfl, h⟩ := h
  simpa using h
abbrev OB (B : Nat) (w : World) (v : Value) (l : Binds) : Prop := Owned 2 RBind B 34 (fun _ => False) w v l
abbrev OV (B : Nat) (w : World) (v : Value) (zs : List VB) : Prop := Owned 1 RPair B 24 (fun _ => False) w v zs
structure Nest (B : Nat) (w : World) (v : Value) (zs : List VB) : Prop where
  outer : OV B w v zs
  inner : ∀ z ∈ zs, OB B w z.1 z.2
  apart : zs.Pairwise fun y z => ∀ b, y.1.ownBlock = some b → z.1.ownBlock ≠ some b
  off : ∀ z ∈ zs, ∀ b, z.1.ownBlock = some b → v.ownBlock ≠ some b
theorem Owned.kept {α : Type} {k : Nat} {R : Reader α} (hR : Steady R) {B : Nat} {e : TypeId} {w w' : World} {v : Value} {l : List α} (h : Owned k R B e (fun _ => False) w v l) {row : Option Nat} (hg : w.grownBy w' row) (hne : ∀ q, v.ownBlock = some q → row ≠ some q) : Owned k R B e (fun _ => False) w' v l :=
  h.keep hR ⟨hg.size, fun _ hb _ => hb.elim⟩ fun g hg' => hg.block g (h.row_lt hg').2 (fun e => hne g hg' e.symm)
section
variable {B : Nat} {w w' : World} {v v' : Value} {zs : List VB}
theorem Nest.nil : Nest B w (.slice none 0 0) [] := ⟨Owned.nil, by simp, List.Pairwise.nil, by simp⟩
theorem Nest.below (h : Nest B w v zs) (hb : Below w.heap.size w w') : Nest B w' v zs :=
  ⟨h.outer.below RPair.steady hb, fun z hz => (h.inner z hz).below RBind.steady hb, h.apart, h.off⟩
theorem Nest.alloc (h : Nest B w v zs) (o : Obj) : Nest B (w.alloc o) v zs := h.below ((Below.refl _ _).alloc (Nat.le_refl _) o)
theorem Nest.row_lt (h : Nest B w v zs) {g : Nat} (hg : v.ownBlock = some g) : B ≤ g ∧ g < w.heap.size := h.outer.row_lt hg
theorem Nest.inner_lt (h : Nest B w v zs) {z : VB} (hz : z ∈ zs) {g : Nat} (hg : z.1.ownBlock = some g) : B ≤ g ∧ g < w.heap.size := (h.inner z hz).row_lt hg
theorem Nest.kept (h : Nest B w v zs) {row : Option Nat} (hg : w.grownBy w' row) (hr : ∀ q, row = some q → q < B) : Nest B w' v zs :=
  ⟨h.outer.kept RPair.steady hg (fun q hq e => by have := (h.row_lt hq).1; have := hr q e; omega), fun z hz => (h.inner z hz).kept RBind.steady hg (fun q hq e => by have := (h.inner_lt hz hq).1; have := hr q e; omega), h.apart, h.off⟩
theorem Nest.snoc (h : Nest B w v zs) {z : VB} (hz : OB B w z.1 z.2) (ha : ∀ y ∈ zs, ∀ b, y.1.ownBlock = some b → z.1.ownBlock ≠ some b) (hv : ∀ b, z.1.ownBlock = some b → v.ownBlock ≠ some b)
    (ho : OV B w' v' (zs ++ [z])) (hg : w.grownBy w' v.ownBlock) (hat : v'.ownBlock = v.ownBlock ∨ v'.ownBlock = some w.heap.size) : Nest B w' v' (zs ++ [z]) := by
  refine ⟨ho, fun y hy => ?_, ?_, fun y hy b hb => ?_⟩
  · rcases List.mem_append.1 hy with hy | hy
    · exact (h.inner y hy).kept RBind.steady hg (fun q hq e => h.off y hy q hq e)
    · obtain rfl := List.mem_singleton.1 hy
      exact hz.kept RBind.steady hg (fun q hq e => hv q hq e)
  · refine List.pairwise_append.2 ⟨h.apart, List.pairwise_singleton _ _, fun y hy y' hy' => ?_⟩
    obtain rfl := List.mem_singleton.1 hy'
    exact ha y hy
  · have hlt : b < w.heap.size := by
      rcases List.mem_append.1 hy with hy | hy
      · exact (h.inner_lt hy hb).2
      · obtain rfl := List.mem_singleton.1 hy
        exact (hz.row_lt hb).2
    have hvb : v.ownBlock ≠ some b := by
      rcases List.mem_append.1 hy with hy | hy
      · exact h.off y hy b hb
      · obtain rfl := List.mem_singleton.1 hy
        exact hv b hb
    rcases hat with hat | hat
    · rw [hat]; exact hvb
    · rw [hat]; intro e; injection e with e; omega
theorem Nest.filter (h : Nest B w v zs) (p : VB → Bool) (ho : OV B w' v' (zs.filter p)) (hg : w.grownBy w' v.ownBlock) (hv : v'.ownBlock = v.ownBlock) : Nest B w' v' (zs.filter p) :=
  ⟨ho, fun z hz => (h.inner z (List.mem_filter.1 hz).1).kept RBind.steady hg (fun q hq e => h.off z (List.mem_filter.1 hz).1 q hq e), h.apart.filter _, fun z hz b hb => by rw [hv]; exact h.off z (List.mem_filter.1 hz).1 b hb⟩
theorem Nest.turn {us bs : List VB} {z : VB} {l : Binds} (h : Nest B w v (us ++ z :: bs)) (hz : OB B w' z.1 l) (ho : OV B w v (us ++ (z.1, l) :: bs)) (hg : w.grownBy w' z.1.ownBlock) : Nest B w' v (us ++ (z.1, l) :: bs) := by
  have hmem : z ∈ us ++ z :: bs := by simp
  obtain ⟨p1, p2, p3⟩ := List.pairwise_append.1 h.apart
  obtain ⟨p4, p5⟩ := List.pairwise_cons.1 p2
  refine ⟨ho.kept RPair.steady hg (fun q hq e => h.off z hmem q e hq), fun y hy => ?_, ?_, fun y hy b hb => ?_⟩
  · rcases List.mem_append.1 hy with hy | hy
    · exact (h.inner y (by simp [hy])).kept RBind.steady hg (fun q hq e => p3 y hy z (by simp) q hq e)
    · rcases List.mem_cons.1 hy with rfl | hy
      · exact hz
      · exact (h.inner y (by simp [hy])).kept RBind.steady hg (fun q hq e => p4 y hy q e hq)
  · refine List.pairwise_append.2 ⟨p1, List.pairwise_cons.2 ⟨p4, p5⟩, fun y hy y' hy' => ?_⟩
    rcases List.mem_cons.1 hy' with rfl | hy'
    · exact p3 y hy z (by simp)
    · exact p3 y hy y' (by simp [hy'])
  · rcases List.mem_append.1 hy with hy | hy
    · exact h.off y (by simp [hy]) b hb
    · rcases List.mem_cons.1 hy with rfl | hy
      · exact h.off z hmem b hb
      · exact h.off y (by simp [hy]) b hb
theorem OV.tell {ys : List VB} (h : OV B w v zs) (hl : ys.map (·.1) = zs.map (·.1)) : OV B w v ys := by
  obtain ⟨css, h1, h2, h3, h4⟩ := h
  have hlen : ys.length = zs.length := by have := congrArg List.length hl; simpa using this
  refine ⟨css, by omega, h2, by rw [hlen]; exact h3, fun i cs x hc hx => ?_⟩
  have hi := (List.getElem?_eq_some_iff.1 hx).1
  obtain ⟨y, hy⟩ : ∃ y, zs[i]? = some y := ⟨_, List.getElem?_eq_getElem (by omega)⟩
  have he : x.1 = y.1 := by
    have h5 : (ys.map (·.1))[i]? = some x.1 := by rw [List.getElem?_map, hx]; rfl
    have h6 : (zs.map (·.1))[i]? = some y.1 := by rw [List.getElem?_map, hy]; rfl
    rw [hl, h6] at h5
    exact (Option.some.inj h5).symm
  have := h4 i cs y hc hy
  unfold RPair at *
  rw [he]; exact this
theorem OB.read {x : Value} {l : Binds} (h : OB B w x l) : RdBinds (fun b => x.ownBlock = some b) w x l := by
  have h' := h
  obtain ⟨css, h1, h2, ho, h3⟩ := h
  rcases ho.2 with ⟨rfl, h0⟩ | ⟨g, cap, cur, rfl, hb, hgg, hnc, hcm, hcs, htake⟩
  · refine ⟨none, 0, by rw [h0], by omega, Nat.zero_le _, fun _ => rfl, fun i x hx => ?_⟩
    have := (List.getElem?_eq_some_iff.1 hx).1
    omega
  · refine ⟨some ⟨g, 0, none⟩, cap, rfl, hnc, hcm, (fun h => by cases h), fun i x hx => ?_⟩
    have hi := (List.getElem?_eq_some_iff.1 hx).1
    obtain ⟨cs, hcss⟩ : ∃ cs, css[i]? = some cs := ⟨_, List.getElem?_eq_getElem (by omega)⟩
    refine ⟨g, 0, cs, rfl, rfl, (Array.getElem?_eq_some_iff.1 hgg).1, h2 cs (List.mem_of_getElem? hcss), fun j u hu => ?_, h3 i cs x hcss hx⟩
    have := ho.cells (g := g) rfl (i * 2 + j) u (flatten_get css h2 i cs j u hcss hu)
    have hadd : (⟨g, 0, none⟩ : Addr).add (i * 2 + j) = ⟨g, 0 + i * 2 + j, none⟩ := by unfold Addr.add; split <;> simp_all
    rwa [hadd] at this
theorem OB.slice {x : Value} {l : Binds} (h : OB B w x l) : x.oneCell' = true := by
  obtain ⟨a, c, rfl, -⟩ := (OB.read h).form
  simp [Value.oneCell']
theorem Nest.reads (h : Nest B w v zs) : Owned 1 RBinds B 24 (fun b => B ≤ b) w v (zs.map (·.2)) := by
  obtain ⟨css, h1, h2, h3, h4⟩ := h.outer
  refine ⟨css, by simpa using h1, h2, by rw [List.length_map]; exact h3, fun i cs x hc hx => ?_⟩
  rw [List.getElem?_map] at hx
  cases hz : zs[i]? with
  | none => rw [hz] at hx; cases hx
  | some z =>
    rw [hz] at hx
    obtain rfl : z.2 = x := by simpa using hx
    have hm := List.mem_of_getElem? hz
    obtain ⟨rfl, -⟩ := h4 i cs z hc hz
    exact ⟨z.1, rfl, (OB.read (h.inner z hm)).more RBind.steady (fun b hb _ => ⟨(h.inner_lt hm hb).1, fun e => h.off z hm b hb e.symm⟩)⟩
end
end Go.Proofs.Ythieomebngiabaa
namespace Go.Proofs.Ythieomebngiabaa
open Go.RowKit
theorem RdBinds.at {S : Nat → Prop} {w : World} {a : Option Addr} {n cap : Nat} {l : Binds} (h : RdBinds S w (.slice a n cap) l) {i : Nat} {x : PBind} (hx : l[i]? = some x) :
    ∃ b off, a = some ⟨b, off, none⟩ ∧ S b ∧ b < w.heap.size ∧ w.cell? ⟨b, off + i * 2, none⟩ = some (.string x.var) ∧ w.cell? ⟨b, off + i * 2 + 1, none⟩ = some (.string x.name) := by
  obtain ⟨a', cap', hv, _, _, _, h3⟩ := h
  obtain ⟨b, off, cs, ha, hS, hb, hk, hc, hr⟩ := h3 i x hx
  injection hv with e1 e2 e3
  subst e1
  have hr' : cs = [.string x.var, .string x.name] := hr
  subst hr'
  exact ⟨b, off, ha, hS, hb, by simpa using hc 0 _ rfl, by simpa using hc 1 _ rfl⟩
theorem RdBinds.up {S : Nat → Prop} {w w' : World} {v : Value} {l : Binds} (h : RdBinds S w v l) (hb : Below w.heap.size w w') : RdBinds (fun _ => True) w' v l := (h.more RBind.steady (fun _ _ _ => trivial)).agree RBind.steady (Below.agree hb)
def getV : Option Str → Value
  | none => .tuple #[.string ⟨#[]⟩, .bool false]
  | some x => .tuple #[.string x, .bool true]
theorem getB_none_of {v : Str} {l : Binds} (h : ∀ b ∈ l, b.var ≠ v) : getB v l = none := getB_none.2 fun hm => by
  obtain ⟨b, hb, e⟩ := List.mem_map.1 hm
  exact h b hb e
theorem getB_hit {v : Str} {l : Binds} {k : Nat} {x : PBind} (h : ∀ b ∈ l.take k, b.var ≠ v) (hx : l[k]? = some x) (hv : x.var = v) : getB v l = some x.name := by
  have e : l = l.take k ++ x :: l.drop (k + 1) := by rw [← drop_cons hx, List.take_append_drop]
  rw [e, getB_append, getB_none_of h]
  simp [getB, hv]
set_option maxRecDepth 100000 in
set_option maxHeartbeats 4000000 in
theorem getCalls {S : Nat → Prop} (v : Value) (l : Binds) (s : Str) (w : World) (h : RdBinds S w v l) (n1 : l.length ≤ 1099511627776) :
    Calls Try.prog 13 #[v, .string s] w fun e w' => e = .returned (getV (getB s l)) ∧ Below w.heap.size w w' := by
  obtain ⟨a, c, rfl, -, -, -⟩ := id h.form
  have H := Lib.hid h
  clear h
  go_enter Try.func13, Try.ntmps13
  go_wp2
  go_loopw [10] (fun i wr => ∃ k : Nat, k ≤ l.length ∧ i = .int .i64 k ∧ Hid (∀ b ∈ l.take k, b.var ≠ s) ∧ Hid (Below w.heap.size w wr)) (fun i _ => l.length - (intOf i).toNat)
  case atStart => exact ⟨0, Nat.zero_le _, rfl, Lib.hid (by simp), Lib.hid (Below.refl _ _)⟩
  case round =>
    obtain ⟨k, hk, rfl, HO, HB⟩ := hrel
    by_cases hlt : k < l.length
    · obtain ⟨x, hx⟩ : ∃ x, l[k]? = some x := ⟨_, List.getElem?_eq_getElem hlt⟩
      obtain ⟨b1, o1, rfl, -, -, d0, d1⟩ := RdBinds.at (H.out.up HB.out) hx
      have hsz := HB.out.size
      have HB1 := Lib.hid (HB.out.alloc hsz (.cells #[.string x.var, .string x.name] 34))
      have HX := Lib.hid hx
      clear hx
      by_cases hv : x.var = s
      · have HE := Lib.hid (getB_hit HO.out HX.out hv)
        have gz : (x.var.toList == s.toList) = true := by rw [hv]; simp
        clear hv
        go_wp2
        refine bodyPost_ret (v := .tuple #[.string x.name, .bool true]) (by simp [results, Try.results13, go_sem]) rfl ?_
        exact ⟨by rw [HE.out]; rfl, HB1.out⟩
      · have gz : (x.var.toList == s.toList) = false := by rw [beq_toList]; exact decide_eq_false hv
        have HO1 := Lib.hid (show ∀ b ∈ l.take (k + 1), b.var ≠ s from fun b hb => by
          rw [List.take_add_one, HX.out] at hb
          rcases List.mem_append.1 hb with hb | hb
          · exact HO.out b hb
          · obtain rfl : b = x := by simpa using hb
            exact hv)
        clear hv
        go_wp2
        go_roundw
        case rel => exact ⟨k + 1, by omega, by go_num, HO1, HB1⟩
        case measure => simp [intOf]; omega
    · have HE := Lib.hid (getB_none_of (v := s) (l := l) (by have := HO.out; rwa [List.take_of_length_le (by omega)] at this))
      go_wp2
      refine bodyPost_ret (v := .tuple #[.string ⟨#[]⟩, .bool false]) (by simp [results, Try.results13, go_sem]) rfl ?_
      exact ⟨by rw [HE.out]; rfl, HB.out⟩
set_option maxHeartbeats 400000 in
theorem cloneBind {S : Nat → Prop} (v : Value) (l : Binds) (w : World) (h : RdBinds S w v l) (n1 : l.length ≤ 1073741824) :
    Calls Try.prog 28 #[v] w fun e w' => (∃ v', e = .returned v' ∧ OB w.heap.size w' v' l) ∧ Below w.heap.size w w' := by
  obtain ⟨a, c, rfl, -, -, hnil⟩ := id h.form
  have heq := fun (w : World) (n c n' c' : Nat) => Lib.run_eql_slice_nil (P := Try.prog) w 24 34 a n c n' c' Try.underlying24
  cases a with
  | none =>
    have hl : l = [] := by
      cases l with
      | nil => rfl
      | cons x r =>
        obtain ⟨b, o, ha, _⟩ := h.at (i := 0) (x := x) rfl
        cases ha
    subst hl
    obtain rfl := hnil rfl
    clear h hnil
    go_enter Try.func28, Try.ntmps28
    go_wp2
    go_ret
    exact ⟨⟨_, rfl, Owned.nil⟩, Below.refl _ _⟩
  | some ad =>
    clear hnil
    have H := Lib.hid h
    clear h
    go_enter Try.func28, Try.ntmps28
    go_wp2_with (at_builtin; refine wpList_append_many (B := w.heap.size) (e := 34) (S := fun _ => False) (by rfl) _ _ 24 (by rfl) RBind.steady RBind.one rowBinds _ [] (by rfl) (Owned.made (w := w) (cur := #[]) (cap := 0) (Nat.le_refl _) (Nat.zero_le _) rfl) _ l (by rfl) (H.out.agree RBind.steady (Agree.alloc (Agree.refl _ _) _)) (fun _ _ h => h) ?hl ?hb ?_)
    case hl => simp; omega
    case hb => simp
    · intro v' w' hown hg hat
      try rw [List.nil_append] at hown
      have hown' := Lib.hid hown
      have hg' := Lib.hid hg
      clear hown hg hat
      go_wp2
      go_ret
      exact ⟨⟨_, rfl, hown'.out⟩, (((Below.refl _ _).alloc (Nat.le_refl _) _).grown hg'.out (by simp) (fun k hk => by cases hk; exact Nat.le_refl _))⟩
theorem Owned.lower {α : Type} {k : Nat} {R : Reader α} {B B' : Nat} {e : TypeId} {S : Nat → Prop} {w : World} {v : Value} {l : List α} (h : Owned k R B e S w v l) (hB : B' ≤ B) : Owned k R B' e S w v l := by
  obtain ⟨css, h1, h2, ho, h3⟩ := h
  refine ⟨css, h1, h2, ⟨ho.1, ?_⟩, h3⟩
  rcases ho.2 with h | ⟨g, cap, cur, e1, hb, r⟩
  · exact .inl h
  · exact .inr ⟨g, cap, cur, e1, Nat.le_trans hB hb, r⟩
theorem kept_grown {W1 w2 : World} {o : Obj} {r : Option Nat} {c : Nat} (hg2 : (W1.alloc o).grownBy w2 r) (hc : c < W1.heap.size) (hr : r ≠ some c) (off : Nat) : w2.cell? ⟨c, off, none⟩ = W1.cell? ⟨c, off, none⟩ :=
  kept_cell (Below.refl _ _) hg2 hc hr off
theorem meetP_name {a : PAtom} {f : PFact} {l : Binds} (h : a.name ≠ f.name) : meetP a f l = none := if_neg fun e => h e.1
theorem meetP_len {a : PAtom} {f : PFact} {l : Binds} (h : a.terms.length ≠ f.args.length) : meetP a f l = none := if_neg fun e => h e.2
theorem meetL_yes {m : Binds} {t : PTerm} {ts : List PTerm} {n x : Str} {ns : List Str} (h : valT m t = some x) (he : x = n) : meetL m (t :: ts) (n :: ns) = meetL m ts ns := by rw [meetL, h]; simp [he]
theorem meetL_no {m : Binds} {t : PTerm} {ts : List PTerm} {n x : Str} {ns : List Str} (h : valT m t = some x) (he : x ≠ n) : meetL m (t :: ts) (n :: ns) = none := by rw [meetL, h]; simp [he]
theorem meetL_new {m : Binds} {t : PTerm} {ts : List PTerm} {n : Str} {ns : List Str} (h : valT m t = none) : meetL m (t :: ts) (n :: ns) = meetL (m ++ [⟨t.name, n⟩]) ts ns := by rw [meetL, h]
def MeetPost (a : PAtom) (f : PFact) (l : Binds) (w : World) (e : Ending) (w' : World) : Prop :=
  Below w.heap.size w w' ∧ match meetP a f l with
    | none => e = .returned (.tuple #[.slice none 0 0, .bool false])
    | some m => ∃ v, e = .returned (.tuple #[v, .bool true]) ∧ OB w.heap.size w' v m
theorem meet_none {a : PAtom} {f : PFact} {l : Binds} {w w' : World} (h : meetP a f l = none) (hb : Below w.heap.size w w') : MeetPost a f l w (.returned (.tuple #[.slice none 0 0, .bool false])) w' := ⟨hb, by rw [h]⟩
theorem meet_some {a : PAtom} {f : PFact} {l m : Binds} {w w' : World} {v : Value} (h : meetP a f l = some m) (hb : Below w.heap.size w w') (ho : OB w.heap.size w' v m) : MeetPost a f l w (.returned (.tuple #[v, .bool true])) w' := ⟨hb, by rw [h]; exact ⟨v, rfl, ho⟩⟩
set_option maxRecDepth 100000 in
set_option maxHeartbeats 8000000 in
theorem meetCalls {S S2 S3 : Nat → Prop} (a : PAtom) (tv : Value) (f : PFact) (fv : Value) (lv : Value) (l : Binds) (w : World) (ht : RdTerms S w tv a.terms) (hf : RdStrs S2 w fv f.args) (hl : RdBinds S3 w lv l)
    (n1 : a.terms.length ≤ 1048576) (_ : f.args.length ≤ 1048576) (n3 : l.length ≤ 536870912) :
    Calls Try.prog 11 #[.agg #[.bool a.neg, .string a.name, tv], .agg #[.string f.name, fv], lv] w (MeetPost a f l w) := by
  obtain ⟨ta, tc, rfl, -, -, -⟩ := id ht.form
  obtain ⟨fa, fc, rfl, -, -, -⟩ := id hf.form
  obtain ⟨la, lc, rfl, -, -, -⟩ := id hl.form
  have HT := Lib.hid ht
  have HF := Lib.hid hf
  have HL := Lib.hid hl
  clear ht hf hl
  have hB0 : Below w.heap.size w ((w.alloc (.cells #[.bool a.neg, .string a.name, .slice ta a.terms.length tc] 38)).alloc (.cells #[.string f.name, .slice fa f.args.length fc] 41)) := ((Below.refl _ _).alloc (Nat.le_refl _) _).alloc (by simp) _
  have HB0 := Lib.hid hB0
  clear hB0
  by_cases hn : a.name = f.name
  case neg =>
    have gz : (a.name.toList == f.name.toList) = false := by rw [beq_toList]; exact decide_eq_false hn
    have HE := Lib.hid (meetP_name (l := l) hn)
    clear hn
    go_enter Try.func11, Try.ntmps11
    go_wp2
    refine bodyPost_ret (v := .tuple #[.slice none 0 0, .bool false]) (by simp [results, Try.results11, go_sem]) rfl ?_
    exact meet_none HE.out HB0.out
  have gz : (a.name.toList == f.name.toList) = true := by rw [hn]; simp
  have HN := Lib.hid hn
  clear hn
  by_cases hq : a.terms.length = f.args.length
  case neg =>
    have i1 : ¬ (a.terms.length : Int) = (f.args.length : Int) := by omega
    have HE := Lib.hid (meetP_len (l := l) hq)
    clear hq
    go_enter Try.func11, Try.ntmps11
    go_wp2
    refine bodyPost_ret (v := .tuple #[.slice none 0 0, .bool false]) (by simp [results, Try.results11, go_sem]) rfl ?_
    exact meet_none HE.out HB0.out
  have HE := Lib.hid (show meetP a f l = meetL l a.terms f.args from if_pos ⟨HN.out, hq⟩)
  have HQ := Lib.hid hq
  have i1 : (a.terms.length : Int) = (f.args.length : Int) := by omega
  clear hq
  have KC := Lib.hid (fun W (hW : Below w.heap.size w W) => cloneBind (.slice la l.length lc) l W (HL.out.up hW) (by omega))
  go_enter Try.func11, Try.ntmps11
  obtain ⟨W0, hW0⟩ : ∃ W0 : World, (w.alloc (.cells #[.bool a.neg, .string a.name, .slice ta a.terms.length tc] 38)).alloc (.cells #[.string f.name, .slice fa f.args.length fc] 41) = W0 := ⟨_, rfl⟩
  have hs0 : W0.heap.size = w.heap.size + 2 := by subst hW0; simp
  have t0 : W0.cell? ⟨w.heap.size, 2, none⟩ = some (.slice ta a.terms.length tc) := by subst hW0; simp
  have t1 : W0.cell? ⟨w.heap.size + 1, 1, none⟩ = some (.slice fa f.args.length fc) := by subst hW0; simp
  have t2 : W0.cell? ⟨w.heap.size, 1, none⟩ = some (.string a.name) := by subst hW0; simp
  have t3 : W0.cell? ⟨w.heap.size + 1, 0, none⟩ = some (.string f.name) := by subst hW0; simp
  rw [hW0] at HB0
  go_wp2_with (go_at_call 28; refine (KC.out _ HB0.out).mono ?_; rintro e w1 ⟨⟨v1, rfl, ho1⟩, hb1⟩; have HO1 := Lib.hid ho1; have HB1 := Lib.hid hb1; have a2 := (cell_below hb1 (show w.heap.size < W0.heap.size by omega) 2).trans t0; clear ho1 hb1)
  clear a2 t2 t3
  have T0 := Lib.hid t0
  have T1 := Lib.hid t1
  clear t0 t1 hW0 KC
  go_loopw [33, 8] (fun i v wr => ∃ k : Nat, k ≤ f.args.length ∧ i = .int .i64 k ∧ ∃ m : Binds, Hid (OB W0.heap.size wr v m) ∧ Hid (Below W0.heap.size W0 wr) ∧ Hid (meetP a f l = meetL m (a.terms.drop k) (f.args.drop k)) ∧ Hid (m.length ≤ l.length + k)) (fun i _ _ => f.args.length - (intOf i).toNat)
  case atStart => exact ⟨0, Nat.zero_le _, rfl, l, HO1, HB1, Lib.hid (by rw [HE.out]; rfl), Lib.hid (by omega)⟩
  case round =>
    clear HO1 HB1
    obtain ⟨k, hk, rfl, m, HO, HB, HM, HL1⟩ := hrel
    obtain ⟨va, vc, efm, -, -, -⟩ := (OB.read HO.out).form
    subst efm
    have hBw := HB0.out.trans (HB.out.mono HB0.out.size)
    have HBw := Lib.hid hBw
    clear hBw
    by_cases hlt : k < f.args.length
    · obtain ⟨t, hx⟩ : ∃ t, a.terms[k]? = some t := ⟨_, List.getElem?_eq_getElem (by have := HQ.out; omega)⟩
      obtain ⟨n, hy⟩ : ∃ n, f.args[k]? = some n := ⟨_, List.getElem?_eq_getElem hlt⟩
      obtain ⟨b1, o1, rfl, -, -, d0, d1⟩ := RdTerms.at (HT.out.up HBw.out) hx
      obtain ⟨b2, o2, rfl, -, hb2, -⟩ := RdStrs.at HF.out hy
      have c2 : wr.cell? ⟨b2, o2 + k, none⟩ = some (.string n) := by
        obtain ⟨b3, o3, e3, -, -, h3⟩ := RdStrs.at (HF.out.up HBw.out) hy
        injection e3 with e3
        injection e3 with e3 e4 _
        rw [e3, e4]; exact h3
      have hsz := HB.out.size
      have c1 := (cell_below HB.out (show w.heap.size + 1 < W0.heap.size by omega) 1).trans T1.out
      have i2 : (0 : Int) ≤ (k : Int) := by omega
      have i3 : (k : Int) < (f.args.length : Int) := by omega
      have i4 : (k : Int) < (a.terms.length : Int) := by omega
      have HM0 := Lib.hid (show meetP a f l = meetL m (t :: a.terms.drop (k + 1)) (n :: f.args.drop (k + 1)) by rw [HM.out, drop_cons hx, drop_cons hy])
      obtain ⟨W1, hW1⟩ : ∃ W1 : World, wr.alloc (.cells #[.bool t.var, .string t.name] 67) = W1 := ⟨_, rfl⟩
      have hs1 : W1.heap.size = wr.heap.size + 1 := by subst hW1; simp
      have hbx : Below wr.heap.size wr W1 := by subst hW1; exact (Below.refl _ _).alloc (Nat.le_refl _) _
      have HBX := Lib.hid (HB.out.trans (hbx.mono hsz))
      have HBY := Lib.hid hbx
      have HOX := Lib.hid (HO.out.below RBind.steady hbx)
      have HWX := Lib.hid hW1
      have j1 : w.heap.size + 1 < wr.heap.size := by omega
      have j2 : b2 < wr.heap.size := by have := HBw.out.size; omega
      clear hx hy hbx hW1 HM
      cases htv : t.var
      · have hv : valT m t = some t.name := by unfold valT; rw [htv]; rfl
        rw [htv] at d0 HWX
        by_cases hz : t.name = n
        · have gz2 : (t.name.toList == n.toList) = true := by rw [hz]; simp
          have HM1 := Lib.hid (HM0.out.trans (meetL_yes hv hz))
          have HL2 := Lib.hid (show m.length ≤ l.length + (k + 1) by have := HL1.out; omega)
          rw [← HWX.out] at HBX HOX
          clear hz hv htv hs1 HBY
          go_wp2
          go_roundw
          case rel => exact ⟨k + 1, by omega, by go_num, m, HOX, HBX, HM1, HL2⟩
          case measure => simp [intOf]; omega
        · have gz2 : (t.name.toList == n.toList) = false := by rw [beq_toList]; exact decide_eq_false hz
          have HR := Lib.hid (HM0.out.trans (meetL_no hv hz))
          rw [← HWX.out] at HBX
          clear hz hv htv hs1 HBY
          go_wp2
          refine bodyPost_ret (v := .tuple #[.slice none 0 0, .bool false]) (by simp [results, Try.results11, go_sem]) rfl ?_
          exact meet_none HR.out (HB0.out.trans (HBX.out.mono HB0.out.size))
      · have hv : valT m t = getB t.name m := by unfold valT; rw [htv]; rfl
        rw [htv] at d0 HWX
        have e0 : W1.cell? ⟨wr.heap.size, 0, none⟩ = some (.bool true) := by rw [← HWX.out]; simp
        have e1 : W1.cell? ⟨wr.heap.size, 1, none⟩ = some (.string t.name) := by rw [← HWX.out]; simp
        have KG := Lib.hid (getCalls (.slice va m.length vc) m t.name W1 (OB.read HOX.out) (by have := HL1.out; omega))
        have hW1 := HWX.out
        clear HWX
        have f1 := (cell_below HBY.out (show w.heap.size + 1 < wr.heap.size by omega) 1).trans c1
        have f2 := (cell_below HBY.out (show b2 < wr.heap.size by have := HBw.out.size; omega) (o2 + k)).trans c2
        have E1 := Lib.hid e1
        have F1 := Lib.hid f1
        have F2 := Lib.hid f2
        clear f1 f2
        have hb2' : b2 < W1.heap.size := by have := HBw.out.size; omega
        have HB2 := Lib.hid hb2
        clear hb2
        cases hg : getB t.name m with
        | none =>
          rw [hg] at KG hv
          have HM1 := Lib.hid (HM0.out.trans (meetL_new hv))
          have hls : ([(⟨t.name, n⟩ : PBind)] : Binds).length = 1 := rfl
          have HL2 := Lib.hid (show (m ++ [(⟨t.name, n⟩ : PBind)]).length ≤ l.length + (k + 1) by have := HL1.out; rw [List.length_append, hls]; omega)
          have HLM := Lib.hid (show m.length < 1099511627776 by have := HL1.out; omega)
          clear hls hg hv htv
          go_wp2_with (go_at_call 13; refine (KG.out).mono ?_; rintro e w1 ⟨rfl, hb1⟩; dsimp only [getV]; have HBG := Lib.hid hb1; have e1 := (cell_below hb1 (show wr.heap.size < W1.heap.size by omega) 1).trans E1.out; have f1 := (cell_below hb1 (show w.heap.size + 1 < W1.heap.size by omega) 1).trans F1.out; have f2 := (cell_below hb1 hb2' (o2 + k)).trans F2.out; clear hb1)
          have HB3 := Lib.hid (HBX.out.trans (HBG.out.mono (by omega)))
          have HO3 := Lib.hid (HOX.out.below RBind.steady HBG.out)
          have hq1 : ∀ c, c < W1.heap.size → (c < W0.heap.size ∨ c = wr.heap.size) → (Value.slice va m.length vc).ownBlock ≠ some c := fun c hc ho e => by
            obtain ⟨g1, g2⟩ := HO.out.row_lt e
            omega
          have hq2 : ∀ c, c < W1.heap.size → c < w1.heap.size := fun c hc => by have := HBG.out.size; omega
          have HQ1 := Lib.hid hq1
          have HQ2 := Lib.hid hq2
          clear hq1 hq2
          go_region_held3 (fun w' => w'.cell? ⟨wr.heap.size, 1, none⟩ = some (.string t.name) ∧ w'.cell? ⟨w.heap.size + 1, 1, none⟩ = some (.slice (some ⟨b2, o2, none⟩) f.args.length fc) ∧ w'.cell? ⟨b2, o2 + k, none⟩ = some (.string n))
            (first
              | (refine ⟨?_, ?_, ?_⟩ <;> (first | (rw [hk1]; assumption) | (rw [hk2]; assumption) | (rw [hk3]; assumption)))
              | go_keep)
            (first
              | (refine step_append_one (by rfl) _ _ 24 (by rfl) RBind.steady rowBinds _ m (by rfl) ((HO3.out.drew RBind.steady).alloc RBind.steady _) _ 1 #[.string t.name, .string n] 34 (0, 0) ⟨t.name, n⟩ (by rfl) (heap_alloc_new _ _) rfl (by simp [Value.oneCell']) rfl HLM.out (by have := HB3.out.size; simp; omega) ?_; intro v2 w2 hown2 hg2 hat2; have hk1 := fun off => kept_grown (W1 := w1.drew) hg2 (show wr.heap.size < w1.heap.size from HQ2.out _ (by omega)) (HQ1.out _ (by omega) (by omega)) off; have hk2 := fun off => kept_grown (W1 := w1.drew) hg2 (show w.heap.size + 1 < w1.heap.size from HQ2.out _ (by omega)) (HQ1.out _ (by omega) (by omega)) off; have hk3 := fun off => kept_grown (W1 := w1.drew) hg2 (show b2 < w1.heap.size from HQ2.out _ (by omega)) (HQ1.out _ (by omega) (by have := HB2.out; omega)) off))
          have HO4 := Lib.hid hown2
          have HB4 := Lib.hid ((HB3.out.drew.alloc (by have := HB3.out.size; simp; omega) _).grown hg2 (by have := HB3.out.size; simp; omega) (fun q hq => (HO3.out.row_lt hq).1))
          clear hown2 hg2 hat2 hk1 hk2 hk3
          go_wp2
          go_roundw
          case rel => exact ⟨k + 1, by omega, by go_num, _, HO4, HB4, HM1, HL2⟩
          case measure => simp [intOf]; omega
        | some x =>
          rw [hg] at KG hv
          by_cases hz : x = n
          · have gz2 : (x.toList == n.toList) = true := by rw [hz]; simp
            have HM1 := Lib.hid (HM0.out.trans (meetL_yes hv hz))
            have HL2 := Lib.hid (show m.length ≤ l.length + (k + 1) by have := HL1.out; omega)
            clear hz hg hv htv
            go_wp2_with (go_at_call 13; refine (KG.out).mono ?_; rintro e w1 ⟨rfl, hb1⟩; dsimp only [getV]; have HBG := Lib.hid hb1; have e1 := (cell_below hb1 (show wr.heap.size < W1.heap.size by omega) 1).trans E1.out; have f1 := (cell_below hb1 (show w.heap.size + 1 < W1.heap.size by omega) 1).trans F1.out; have f2 := (cell_below hb1 hb2' (o2 + k)).trans F2.out; clear hb1)
            have HB3 := Lib.hid (HBX.out.trans (HBG.out.mono (by omega)))
            have HO3 := Lib.hid (HOX.out.below RBind.steady HBG.out)
            go_roundw
            case rel => exact ⟨k + 1, by omega, by go_num, m, HO3, HB3, HM1, HL2⟩
            case measure => simp [intOf]; omega
          · have gz2 : (x.toList == n.toList) = false := by rw [beq_toList]; exact decide_eq_false hz
            have HR := Lib.hid (HM0.out.trans (meetL_no hv hz))
            clear hz hg hv htv
            go_wp2_with (go_at_call 13; refine (KG.out).mono ?_; rintro e w1 ⟨rfl, hb1⟩; dsimp only [getV]; have HBG := Lib.hid hb1; have e1 := (cell_below hb1 (show wr.heap.size < W1.heap.size by omega) 1).trans E1.out; have f1 := (cell_below hb1 (show w.heap.size + 1 < W1.heap.size by omega) 1).trans F1.out; have f2 := (cell_below hb1 hb2' (o2 + k)).trans F2.out; clear hb1)
            have HB3 := Lib.hid (HBX.out.trans (HBG.out.mono (by omega)))
            refine bodyPost_ret (v := .tuple #[.slice none 0 0, .bool false]) (by simp [results, Try.results11, go_sem]) rfl ?_
            exact meet_none HR.out (HB0.out.trans (HB3.out.mono HB0.out.size))
    · have HR := Lib.hid (show meetP a f l = some m by rw [HM.out, drop_end (by have := HQ.out; omega), drop_end (by omega)]; rfl)
      go_wp2
      refine bodyPost_ret (v := .tuple #[.slice va m.length vc, .bool true]) (by simp [results, Try.results11, go_sem]) rfl ?_
      exact meet_some HR.out HBw.out (HO.out.lower (by omega))
end Go.Proofs.Ythieomebngiabaa
