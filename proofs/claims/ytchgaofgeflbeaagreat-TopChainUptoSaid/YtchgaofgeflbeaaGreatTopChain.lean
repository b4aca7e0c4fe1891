/-
  corotop.TopChain ALWAYS ANSWERS TRUE: of a chain of so many roads the way from its beginning to its end is known behind as many rounds, not fewer. For any arguments of ordinary size; without conditions.
-/
import Derived.Test.YtchgaofgeflbeaaGreatPk15
import Derived.Test.YtchgaofgeflbeaaGreatPk18
import Derived.Test.YtchgaofgeflbeaaGreatChecked
namespace Go.Proofs.YtchgaofgeflbeaaGreat
open Go.RowKit Go.ChangeShapes Go.WideShapes Go.Deep

theorem chainF_succ (k : Nat) : chainF (k + 1) = chainF k ++ [⟨xroad, [tn k, tn (k + 1)]⟩] := by unfold chainF; rw [List.range_succ, List.map_append]; rfl
theorem chainF_length (k : Nat) : (chainF k).length = k := by unfold chainF; simp
theorem chainF_args {k : Nat} {x : PFact} (h : x ∈ chainF k) : x.args.length = 2 := by
  unfold chainF at h
  obtain ⟨i, -, rfl⟩ := List.mem_map.1 h
  rfl
theorem rising_ofB : ∀ {l : List PFact}, risingB l = true → Rising l
  | [], _ => List.Pairwise.nil
  | [_], _ => List.pairwise_singleton _ _
  | a :: b :: l, h => by
    rw [risingB, Bool.and_eq_true] at h
    have ih := rising_ofB h.2
    refine List.pairwise_cons.2 ⟨fun c hc => ?_, ih⟩
    rcases List.mem_cons.1 hc with rfl | hc
    · exact h.1
    · exact ltF_trans h.1 ((List.pairwise_cons.1 ih).1 c hc)
theorem runB_of {x : PRun} (h : runB x = true) : Rising x.known ∧ (∀ a ∈ x.known, a.args.length ≤ 1048576) ∧ x.known.length ≤ 1048576 := by
  simp only [runB, Bool.and_eq_true, decide_eq_true_eq, List.all_eq_true] at h
  exact ⟨rising_ofB h.1.1, h.1.2, h.2⟩

attribute [local go_sem ↓] Go.wp_at_zero Go.wp_at_succ
set_option maxRecDepth 100000 in
set_option maxHeartbeats 8000000 in
theorem topChainCalls (n : Int) (w : World) :
    Calls Tryz.prog 4 #[.int .i64 n] w fun e w' => e = .returned (.bool true) ∧ Below w.heap.size w w' := by
  have KA := Lib.hid (aliveTop w)
  by_cases hb : n < 1 ∨ 7 < n
  · have hcs : n < 1 ∨ ¬ n < 1 ∧ (7 : Int) < n := by omega
    clear hb
    rcases hcs with h1 | ⟨h1, h2⟩
    all_goals
      go_enter Tryz.func4, Tryz.ntmps4
      go_wp2_with (go_at_call 5; refine (KA.out).mono ?_; rintro e w1 ⟨rfl, hb1⟩; have HB1 := Lib.hid hb1; clear hb1)
      go_ret
      exact ⟨rfl, HB1.out⟩
  obtain ⟨m, rfl⟩ : ∃ m : Nat, n = m := ⟨n.toNat, by omega⟩
  have g0 : 1 ≤ m := by omega
  have g7 : m ≤ 7 := by omega
  have h1 : ¬ (m : Int) < 1 := by omega
  have h2 : ¬ (7 : Int) < m := by omega
  clear hb
  have hcb := chain_b g0 g7
  simp only [chainB, Bool.and_eq_true, decide_eq_true_eq, List.all_eq_true, Bool.not_eq_true'] at hcb
  obtain ⟨⟨⟨⟨⟨⟨⟨⟨hbg, hla⟩, hll⟩, hx0⟩, hy0⟩, hxr⟩, hyr⟩, hxm⟩, hym⟩ := hcb
  simp only [chainR] at hbg hx0 hy0 hxr hyr hxm hym
  have HBG := Lib.hid hbg
  have HLA := Lib.hid hla
  have HXR := Lib.hid (runB_of hxr)
  have HYR := Lib.hid (runB_of hyr)
  have HCL := Lib.hid (show ofF (chainF m) = chainL m from rfl)
  clear hbg hla hxr hyr
  generalize chainL m = cl at *
  generalize hX : stepsRun [0, 0, 1] 0 roadsP ⟨cl, cl, 0, 0, false⟩ ((m : Int) - 1) = x at *
  generalize hY : stepsRun [0, 0, 1] 0 roadsP ⟨cl, cl, 0, 0, false⟩ (m : Int) = y at *
  obtain ⟨⟨xk, xn, xs, xr, xd⟩, xe⟩ := x
  obtain ⟨⟨yk, yn, ys, yr, yd⟩, ye⟩ := y
  dsimp only at *
  subst hx0 hy0
  have HX := Lib.hid hX
  have HY := Lib.hid hY
  have HXM := Lib.hid hxm
  have HYM := Lib.hid hym
  clear hX hY hxm hym
  have HO0 := Lib.hid (fun W => (Owned.nil : Owned 2 RFact w.heap.size 38 (New w) W (.slice none 0 0) (chainF 0)))
  go_enter Tryz.func4, Tryz.ntmps4
  go_wp2_with (go_at_call 5; refine (KA.out).mono ?_; rintro e w1 ⟨rfl, hb1⟩; have HB1 := Lib.hid hb1; clear hb1)
  go_loopw [22, 3] (fun i v wr => ∃ k : Nat, k ≤ m ∧ i = .int .i64 k ∧ Hid (Owned 2 RFact w.heap.size 38 (New w) wr v (chainF k)) ∧ Hid (Below w.heap.size w wr)) (fun i _ _ => m - (intOf i).toNat)
  case atStart => exact ⟨0, Nat.zero_le _, rfl, Lib.hid (HO0.out _), HB1⟩
  case round =>
    clear HB1 HO0
    obtain ⟨k, hk, rfl, HO, HB⟩ := hrel
    by_cases hlt : k < m
    · have hlt' : (k : Int) < (m : Int) := by omega
      have HS1 := Lib.hid (chainF_succ k)
      have hol := chainF_length k
      have hsz := HB.out.size
      have hk8 : k ≤ 8 := by omega
      have hk9 : k + 1 ≤ 8 := by omega
      generalize chainF k = out at *
      go_wp2_with (first
        | (go_at_call 9; refine (roadCalls k (k + 1) hk8 hk9 _).mono ?_; rintro e w3 ⟨b3, rfl, hn3, hk3, hb3⟩; have HB3 := Lib.hid (HB.out.trans (hb3.mono hsz)); have HO3 := Lib.hid (HO.out.below RFact.steady hb3); have HR3 := Lib.hid (RdStrs.litS (S := New wr) (l := [tn k, tn (k + 1)]) rfl (by simp [maxLen]) hn3 hk3); have hs3 : wr.heap.size ≤ w3.heap.size := hb3.size; clear hb3 hk3 hn3)
        | (at_builtin; refine wpList_append_one (B := w.heap.size) (e := 38) (S := New w) (by rfl) _ _ 32 (by rfl) RFact.steady rowFacts _ out (by rfl) (HO3.out.alloc RFact.steady _) w3.heap.size 1 #[.string xroad, .slice (some ⟨b3, 0, none⟩) 2 2] 38 (0, 0) ⟨xroad, [tn k, tn (k + 1)]⟩ (by rfl) (heap_new_at rfl) rfl (by simp [Value.oneCell']) (RFact.behind (x := ⟨xroad, [tn k, tn (k + 1)]⟩) HO.out hsz (Nat.le_refl _) HR3.out ((Agree.refl _ _).alloc _)) (by omega) (by simp; omega) ?_; intro v4 w4 hown4 hg4 hat4; rw [← HS1.out] at hown4; have HO4 := Lib.hid hown4; have HB4 := Lib.hid (((HB3.out.alloc (by omega) _).grown hg4 (by simp; omega) (fun q hq => (HO3.out.row_lt hq).1))); clear hown4 hg4 hat4))
      go_roundw
      case rel => exact ⟨k + 1, by omega, by go_num, HO4, HB4⟩
      case measure => simp [intOf]; omega
    · have hlt' : ¬ (k : Int) < (m : Int) := by omega
      obtain rfl : k = m := by omega
      have HCA := Lib.hid (fun (z : PFact) (hz : z ∈ chainF k) => show z.args.length ≤ 1073741824 by rw [chainF_args hz]; decide)
      have hrd := HO.out.read RFact.steady
      obtain ⟨fa, fc, rfl, -, -, -⟩ := id hrd.form
      have HFR := Lib.hid (hrd.more RFact.steady (S' := fun _ => True) (fun _ _ _ => trivial))
      clear hrd HO
      have T3 := Lib.hid True.intro
      have hK3 : (chainF k).length ≤ 1073741824 := by rw [chainF_length]; omega
      go_wp2_with (first
        | (go_at_call 12; have hh := HKX.out; clear hh; refine (stepsRunCalls roadsP _ [0, 0, 1] (0, 0) ⟨cl, cl, 0, 0, false⟩ _ _ (k : Int) _ strata_roads HRX.out HRR6.out (by decide) small_roads names_roads ⟨hll, HLA.out, hll, HLA.out⟩).mono ?_; rintro e w7 hp7; obtain ⟨hb7, ya, yc, yb, yd', rfl, hk7, hn7⟩ := run_known HY.out rfl rfl hp7; have HB7 := Lib.hid ((HB6.out.trans (hb7.mono HB6.out.size)).alloc (HB6.out.trans (hb7.mono HB6.out.size)).size (.cells #[.slice ya yk.length yc, .slice yb yn.length yd', .int .i64 ys, .int .i64 yr, .bool yd] 41)); have HKX7 := Lib.hid ((HKX.out.below hb7 HKX.out.lt).alloc (.cells #[.slice ya yk.length yc, .slice yb yn.length yd', .int .i64 ys, .int .i64 yr, .bool yd] 41)); have HKY7 := Lib.hid (Blk.new w7 41 #[.slice ya yk.length yc, .slice yb yn.length yd', .int .i64 ys, .int .i64 yr, .bool yd]); have HFX7 := Lib.hid (RdFacts.up (RdFacts.up HFX6.out hb7) ((Below.refl _ _).alloc (Nat.le_refl _) (.cells #[.slice ya yk.length yc, .slice yb yn.length yd', .int .i64 ys, .int .i64 yr, .bool yd] 41))); have HFY7 := Lib.hid (RdFacts.up hk7 ((Below.refl _ _).alloc (Nat.le_refl _) (.cells #[.slice ya yk.length yc, .slice yb yn.length yd', .int .i64 ys, .int .i64 yr, .bool yd] 41))); clear hb7 hk7 hn7 hp7)
        | (go_at_call 12; have hh := HKR.out; clear hh; refine (stepsRunCalls roadsP _ [0, 0, 1] (0, 0) ⟨cl, cl, 0, 0, false⟩ _ _ ((k : Int) - 1) _ strata_roads HRP.out HRR.out (by decide) small_roads names_roads ⟨hll, HLA.out, hll, HLA.out⟩).mono ?_; rintro e w6 hp6; obtain ⟨hb6, xa, xc, xb, xd', rfl, hk6, hn6⟩ := run_known HX.out rfl rfl hp6; have HB6 := Lib.hid ((HB5.out.trans (hb6.mono HB5.out.size)).alloc (HB5.out.trans (hb6.mono HB5.out.size)).size (.cells #[.slice xa xk.length xc, .slice xb xn.length xd', .int .i64 xs, .int .i64 xr, .bool xd] 41)); have HKR6 := Lib.hid ((HKR.out.below hb6 HKR.out.lt).alloc (.cells #[.slice xa xk.length xc, .slice xb xn.length xd', .int .i64 xs, .int .i64 xr, .bool xd] 41)); have HKX := Lib.hid (Blk.new w6 41 #[.slice xa xk.length xc, .slice xb xn.length xd', .int .i64 xs, .int .i64 xr, .bool xd]); have HRX := Lib.hid ((HRP.out.up hb6).up ((Below.refl _ _).alloc (Nat.le_refl _) (.cells #[.slice xa xk.length xc, .slice xb xn.length xd', .int .i64 xs, .int .i64 xr, .bool xd] 41))); have HRR6 := Lib.hid ((HRR.out.up hb6).up ((Below.refl _ _).alloc (Nat.le_refl _) (.cells #[.slice xa xk.length xc, .slice xb xn.length xd', .int .i64 xs, .int .i64 xr, .bool xd] 41))); have HFX6 := Lib.hid (RdFacts.up hk6 ((Below.refl _ _).alloc (Nat.le_refl _) (.cells #[.slice xa xk.length xc, .slice xb xn.length xd', .int .i64 xs, .int .i64 xr, .bool xd] 41))); have f0 := HKR6.out.cell 0; have f1 := HKR6.out.cell 1; have f2 := HKR6.out.cell 2; have f3 := HKR6.out.cell 3; have f4 := HKR6.out.cell 4; simp only [List.getElem?_toArray, List.getElem?_cons_zero, List.getElem?_cons_succ] at f0 f1 f2 f3 f4; clear hb6 hk6 hn6 hp6)
        | (go_at_call 10; have hh := HF4.out; clear hh; refine (beginCalls roadsP _ _ [0, 0, 1] (0, 0) cl _ strata_roads HR4.out HF4.out (by decide) small_roads names_roads hll HLA.out).mono ?_; rintro e w5 hp5; obtain ⟨hb5, ra, rc, rb, rd, rfl, hk5, hn5⟩ := run_known HBG.out rfl rfl hp5; have HB5 := Lib.hid ((HB4.out.trans (hb5.mono HB4.out.size)).alloc (HB4.out.trans (hb5.mono HB4.out.size)).size (.cells #[.slice ra cl.length rc, .slice rb cl.length rd, .int .i64 0, .int .i64 0, .bool false] 41)); have HKR := Lib.hid (Blk.new w5 41 #[.slice ra cl.length rc, .slice rb cl.length rd, .int .i64 0, .int .i64 0, .bool false]); have HRP := Lib.hid ((HR4.out.up hb5).up ((Below.refl _ _).alloc (Nat.le_refl _) (.cells #[.slice ra cl.length rc, .slice rb cl.length rd, .int .i64 0, .int .i64 0, .bool false] 41))); have HRR := Lib.hid (show RunRd (w5.alloc (.cells #[.slice ra cl.length rc, .slice rb cl.length rd, .int .i64 0, .int .i64 0, .bool false] 41)) ⟨cl, cl, 0, 0, false⟩ (.slice ra cl.length rc) (.slice rb cl.length rd) from RunRd.up ⟨hk5.any, hn5.any⟩ ((Below.refl _ _).alloc (Nat.le_refl _) _)); have d0 := HKR.out.cell 0; have d1 := HKR.out.cell 1; have d2 := HKR.out.cell 2; have d3 := HKR.out.cell 3; have d4 := HKR.out.cell 4; simp only [List.getElem?_toArray, List.getElem?_cons_zero, List.getElem?_cons_succ] at d0 d1 d2 d3 d4; clear hb5 hk5 hn5 hp5)
        | (go_at_call 11; have hh := HR3.out; clear hh; refine (ofKnown (r := cl) (n := cl.length) rfl HCL.out HF3.out hK3 HCA.out).mono ?_; rintro e w4 ⟨⟨oa, oc, rfl, hr4⟩, hb4⟩; have HF4 := Lib.hid hr4; have HR4 := Lib.hid (HR3.out.up hb4); have HB4 := Lib.hid (HB3.out.trans (hb4.mono HB3.out.size)); clear hr4 hb4)
        | (go_at_call 7; clear T3; refine (parseKnown (s := roadsText) (n := 3) (by rfl) (by decide) parse_roads _).mono ?_; rintro e w2 ⟨⟨pa, pc, rfl, hr2⟩, hb2⟩; have HR3 := Lib.hid (RdRules.up hr2 ((Below.refl _ _).alloc (Nat.le_refl _) (.cells #[.int .i64 0, .int .i64 0] 29))); have HB3 := Lib.hid ((HB.out.trans (hb2.mono HB.out.size)).alloc (HB.out.trans (hb2.mono HB.out.size)).size (.cells #[.int .i64 0, .int .i64 0] 29)); have HF3 := Lib.hid (RdFacts.up (RdFacts.up HFR.out hb2) ((Below.refl _ _).alloc (Nat.le_refl _) (.cells #[.int .i64 0, .int .i64 0] 29))); clear hr2 hb2))
      have HK7X := Lib.hid (show Blk (w7.alloc (.cells #[.slice ya yk.length yc, .slice yb yn.length yd', .int .i64 ys, .int .i64 yr, .bool yd] 41)).drew w6.heap.size 41 #[.slice xa xk.length xc, .slice xb xn.length xd', .int .i64 xs, .int .i64 xr, .bool xd] from HKX7.out.drew)
      have HK7Y := Lib.hid (show Blk (w7.alloc (.cells #[.slice ya yk.length yc, .slice yb yn.length yd', .int .i64 ys, .int .i64 yr, .bool yd] 41)).drew w7.heap.size 41 #[.slice ya yk.length yc, .slice yb yn.length yd', .int .i64 ys, .int .i64 yr, .bool yd] from HKY7.out.drew)
      have HF7X := Lib.hid (RdFacts.up HFX7.out (Below.refl _ _).drew)
      have HF7Y := Lib.hid (RdFacts.up HFY7.out (Below.refl _ _).drew)
      have HBD := Lib.hid HB7.out.drew
      have x0 := HKX7.out.cell 0; have x1 := HKY7.out.cell 0
      simp only [List.getElem?_toArray, List.getElem?_cons_zero, List.getElem?_cons_succ] at x0 x1
      have hm2 : 2 ≤ maxLen := by simp [maxLen]
      have KW := Lib.hid (fun W => (show Calls Tryz.prog 14 #[.int .i64 0, .int .i64 (k : Int)] W (TwoPost xway 0 k W) from wayCalls 0 k (by decide) (by omega) W))
      have KX := Lib.hid (fun W av (h : RdFacts (fun _ => True) W (.slice xa xk.length xc) xk) (ha : RdStrs (fun _ => True) W av [tn 0, tn k]) => (show Calls Tryz.prog 13 #[.slice xa xk.length xc, .agg #[.string xway, av]] W fun e w' => e = .returned (.bool false) ∧ Below W.heap.size W w' from
        (inFact (.slice xa xk.length xc) xk ⟨xway, [tn 0, tn k]⟩ av W h ha HXR.out.1 (Nat.le_trans HXR.out.2.2 (by decide)) (fun x hx => Nat.le_trans (HXR.out.2.1 x hx) (by decide))).mono fun e w' ⟨he, hf⟩ => ⟨by rw [he, HXM.out], hf.below⟩))
      have KY := Lib.hid (fun W av (h : RdFacts (fun _ => True) W (.slice ya yk.length yc) yk) (ha : RdStrs (fun _ => True) W av [tn 0, tn k]) => (show Calls Tryz.prog 13 #[.slice ya yk.length yc, .agg #[.string xway, av]] W fun e w' => e = .returned (.bool true) ∧ Below W.heap.size W w' from
        (inFact (.slice ya yk.length yc) yk ⟨xway, [tn 0, tn k]⟩ av W h ha HYR.out.1 (Nat.le_trans HYR.out.2.2 (by decide)) (fun x hx => Nat.le_trans (HYR.out.2.1 x hx) (by decide))).mono fun e w' ⟨he, hf⟩ => ⟨by rw [he, HYM.out], hf.below⟩))
      clear HXR HYR HXM HYM HKX7 HKY7 HFX7 HFY7 HB HB3 HB4 HB5 HB6 HR3 HR4 HF3 HF4 HRP HRR HRX HRR6 HKR HKR6 HKX HFX6 HX HY HBG HCL HLA HCA HFR hK3 KA d0 d1 d2 d3 d4 f0 f1 f2 f3 f4
      have HB7D := HBD
      clear HB7
      have HB7 := HB7D
      clear HB7D HBD
      generalize w7.alloc (.cells #[.slice ya yk.length yc, .slice yb yn.length yd', .int .i64 ys, .int .i64 yr, .bool yd] 41) = W7 at *
      generalize w7.heap.size = Y at *
      generalize w6.heap.size = X at *
      have T4 := Lib.hid True.intro
      go_region_held3 (fun w' => w'.cell? ⟨X, 0, none⟩ = some (.slice xa xk.length xc) ∧ w'.cell? ⟨Y, 0, none⟩ = some (.slice ya yk.length yc))
        (first | (with_reducible exact ⟨g0, g1⟩) | (with_reducible exact ⟨h0, h1⟩) | (with_reducible exact ⟨i0, i1⟩) | (with_reducible exact ⟨j0, j1⟩) | (with_reducible exact ⟨x0, x1⟩) | go_keep)
        (first
          | (go_at_call 13; have hh := HR10.out; clear hh; (with_reducible refine (KY.out _ _ HF10Y.out HR10.out).mono ?_); rintro e w11 ⟨rfl, hb11⟩; have HB11 := Lib.hid (HB10.out.trans (hb11.mono HB10.out.size)); have HK11X := Lib.hid (HK10X.out.below hb11 HK10X.out.lt); have HK11Y := Lib.hid (HK10Y.out.below hb11 HK10Y.out.lt); have HF11X := Lib.hid (RdFacts.up HF10X.out hb11); have HF11Y := Lib.hid (RdFacts.up HF10Y.out hb11); have g0 := HK11X.out.cell 0; have g1 := HK11Y.out.cell 0; simp only [List.getElem?_toArray, List.getElem?_cons_zero, List.getElem?_cons_succ] at g0 g1; clear hb11)
          | (go_at_call 14; have hh := HB9.out; clear hh; (with_reducible refine (KW.out _).mono ?_); rintro e w10 ⟨b10, rfl, -, hk10, hb10⟩; have HB10 := Lib.hid (HB9.out.trans (hb10.mono HB9.out.size)); have HK10X := Lib.hid (HK9X.out.below hb10 HK9X.out.lt); have HK10Y := Lib.hid (HK9Y.out.below hb10 HK9Y.out.lt); have HF10X := Lib.hid (RdFacts.up HF9X.out hb10); have HF10Y := Lib.hid (RdFacts.up HF9Y.out hb10); have h0 := HK10X.out.cell 0; have h1 := HK10Y.out.cell 0; simp only [List.getElem?_toArray, List.getElem?_cons_zero, List.getElem?_cons_succ] at h0 h1; have HR10 := Lib.hid (RdStrs.litS (S := fun _ => True) (l := [tn 0, tn k]) (n := 2) rfl hm2 trivial hk10); clear hk10 hb10)
          | (go_at_call 13; have hh := HR8.out; clear hh; (with_reducible refine (KX.out _ _ HF8X.out HR8.out).mono ?_); rintro e w9 ⟨rfl, hb9⟩; have HB9 := Lib.hid (HB8.out.trans (hb9.mono HB8.out.size)); have HK9X := Lib.hid (HK8X.out.below hb9 HK8X.out.lt); have HK9Y := Lib.hid (HK8Y.out.below hb9 HK8Y.out.lt); have HF9X := Lib.hid (RdFacts.up HF8X.out hb9); have HF9Y := Lib.hid (RdFacts.up HF8Y.out hb9); have i0 := HK9X.out.cell 0; have i1 := HK9Y.out.cell 0; simp only [List.getElem?_toArray, List.getElem?_cons_zero, List.getElem?_cons_succ] at i0 i1; clear hb9)
          | (go_at_call 14; clear T4; (with_reducible refine (KW.out _).mono ?_); rintro e w8 ⟨b8, rfl, -, hk8, hb8⟩; have HB8 := Lib.hid (HB7.out.trans (hb8.mono HB7.out.size)); have HK8X := Lib.hid (HK7X.out.below hb8 HK7X.out.lt); have HK8Y := Lib.hid (HK7Y.out.below hb8 HK7Y.out.lt); have HF8X := Lib.hid (RdFacts.up HF7X.out hb8); have HF8Y := Lib.hid (RdFacts.up HF7Y.out hb8); have j0 := HK8X.out.cell 0; have j1 := HK8Y.out.cell 0; simp only [List.getElem?_toArray, List.getElem?_cons_zero, List.getElem?_cons_succ] at j0 j1; have HR8 := Lib.hid (RdStrs.litS (S := fun _ => True) (l := [tn 0, tn k]) (n := 2) rfl hm2 trivial hk8); clear hk8 hb8))
      go_wp2
      go_ret
      exact ⟨ret_bool (by simp), HB11.out⟩

namespace topChain
theorem own : ownKnob Tryz.prog.godebug = none := by kernel_rfl

set_option maxRecDepth 100000 in
theorem contract (H : Type) (enc : TypeId × Value → H) (W : World) (base : Nat) (args : Array Value) (ds gs : List (DataW H)) (before : List MemPlace)
    (hval : ∀ (j : Nat) t v, Tryz.f4.params[j]? = some t → args[j]? = some v → Value.okWide Tryz.prog W .any base t v)
    (hW : DataW.Whole enc Tryz.prog Tryz.f4.params.toList Rows.topChainSpec.vars false W args.toList ds gs before) (hk : Rows.uptoSmall H (ds ++ gs) = true) :
    Calls Tryz.prog 4 args W fun e W' => ∃ v, e = .returned v ∧ Rows.topChainSpec.post enc Tryz.prog Tryz.f4 false true false false W args v W' := by
  have hW' := hW
  obtain ⟨p, q, hA0, hV, rfl, hfz, hnd⟩ := hW
  have hA : DataW.TrodAll enc Tryz.prog W 0 (fun _ => true) true Tryz.f4.params.toList args.toList ds p := hA0
  rw [Tryz.params4] at hA hval
  obtain ⟨v0, d0, rfl, rfl, h0⟩ := trodAll_one hA
  obtain ⟨rfl, rfl⟩ := trodVars_none hV
  obtain ⟨x0, rfl, s0⟩ := openInt.intArg Tryz.underlying3 (hval 0 3 v0 rfl rfl) h0
  rw [List.append_nil] at hk
  have hb : Rows.uptoBulkAll [d0] ≤ 1048576 := of_decide_eq_true hk
  simp only [Rows.uptoBulkAll] at hb
  refine (topChainCalls x0 W).mono fun e W' ⟨he, hb'⟩ => ?_
  subst he
  exact ⟨_, rfl, law_post (tb := 4) hW' rfl rfl (by kernel_rfl) Tryz.underlying4 (by kernel_rfl) (by kernel_rfl) hb'⟩

set_option maxRecDepth 100000 in
theorem lifted (os : Os) (started : os.Started) (H : Type) (enc : TypeId × Value → H) (F : Stop.Interp) :
    ReturnsInHanded {} Tryz.checked os 4 .any ((Rows.OpenSpec.upto Rows.topChainSpec).pre6 enc Tryz.prog Tryz.f4 Rows.topChainUptoRow.domain false) (((Rows.OpenSpec.upto Rows.topChainSpec).at F).post enc Tryz.prog Tryz.f4 false true false false) := by
  refine returnsInHanded_of_cond (C := Tryz.checked) (s := Rows.OpenSpec.upto Rows.topChainSpec) (k := Rows.uptoSmall) rfl own started (by kernel_rfl) Tryz.func4
    (OpenSpec.witness (enc := enc) (C := Tryz.checked) (s := Rows.OpenSpec.upto Rows.topChainSpec) (k := Rows.uptoSmall) rfl false ⟨#[], #[.int .i64 0], []⟩ 8 (by kernel_rfl) (by kernel_rfl) (by kernel_rfl)
      (x := ([.lit (.int .i64 0)], [], [])) (by kernel_rfl) rfl (by kernel_rfl)) ?_
  intro W base args ds gs before hval hW _ hk _
  exact contract H enc W base args ds gs before hval hW hk

theorem proved : Rows.TopChainUptoSaid :=
  OpenClaim.holds_of_cond 4 Tryz.f4 rfl rfl rfl rfl rfl rfl rfl ⟨rfl, rfl, rfl, rfl, rfl⟩ rfl rfl rfl rfl rfl (by kernel_rfl) Tryz.func4 (by kernel_rfl)
    (of_decide_eq_true (by kernel_rfl)) (by unfold Func.isWrapper; first | (rw [if_pos (by decide +kernel)]; kernel_rfl) | (rw [if_neg (by decide +kernel)]; exact ⟨rfl, rfl⟩))
    (fun os started H enc _ F => lifted os started H enc F)
end topChain
end Go.Proofs.YtchgaofgeflbeaaGreat
