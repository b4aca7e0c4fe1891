/-
  THE WALK OF cororef4.WrongRun.
-/
import Derived.Test.YtbbiapgkcekabaaGreatPr18
namespace Go.Proofs.YtbbiapgkcekabaaGreat
open Go.RowKit

set_option maxRecDepth 100000 in
set_option maxHeartbeats 8000000 in
theorem wrongRunRef {S : Nat → Prop} (p : List PRule) (v : Value) (st : List Int) (q : Int × Int) (r : PRun) (kv nv : Value) (w : World) (hS : StrataIs p st q) (h : RdRules S w v p) (hr : RunRd w r kv nv)
    (n1 : p.length ≤ 1048576) (n2 : ∀ r ∈ p, RuleSmall r) (n3 : ∀ r ∈ p, NameSmall r) (ns : RunSmall r) (m1 : FactsSmall r.known) (m2 : FactsSmall r.new) :
    Calls Tryz.prog 31 #[v, .agg #[kv, nv, .int .i64 r.stratum, .int .i64 r.rounds, .bool r.done]] w fun e w' => e = .returned (.int .i64 (runBad st q.1 p r)) ∧ Below w.heap.size w w' := by
  obtain ⟨a, c, rfl, -, -, -⟩ := id h.form
  obtain ⟨ka, kc, rfl, -, -, -⟩ := id hr.known.form
  obtain ⟨na, nc, rfl, -, -, -⟩ := id hr.new.form
  obtain ⟨W0, hW0⟩ : ∃ W0 : World, w.alloc (.cells #[.slice ka r.known.length kc, .slice na r.new.length nc, .int .i64 r.stratum, .int .i64 r.rounds, .bool r.done] 47) = W0 := ⟨_, rfl⟩
  have hb0 : Below w.heap.size w W0 := by subst hW0; exact (Below.refl _ _).alloc (Nat.le_refl _) _
  have hk0 : Blk W0 w.heap.size 47 #[.slice ka r.known.length kc, .slice na r.new.length nc, .int .i64 r.stratum, .int .i64 r.rounds, .bool r.done] := by subst hW0; exact Blk.new w _ _
  have HB0 := Lib.hid hb0
  have HK0 := Lib.hid hk0
  have H := Lib.hid h
  have HR := Lib.hid hr
  have N2 := Lib.hid n2
  have N3 := Lib.hid n3
  have NS := Lib.hid ns
  have HS := Lib.hid hS
  have M1 := Lib.hid m1
  have M2 := Lib.hid m2
  have KS := Lib.hid (strataRefT hS (h.up hb0) n1 n2 n3)
  clear h hr n2 n3 ns hb0 hk0 hS m1 m2
  obtain ⟨q1, q2⟩ := q
  dsimp only at *
  by_cases hq : q1 = 0
  case neg =>
    have g1 : (q1 != 0) = true := by simpa using hq
    have HE := Lib.hid (run_bad1 (st := st) (p := p) (r := r) hq)
    clear hq
    go_enter Tryz.func31, Tryz.ntmps31
    go_wp2_with (go_at_call 20; refine (KS.out).mono ?_; rintro e w1 ⟨hb1, a1, c1, rfl, hr1⟩; have HB1 := Lib.hid (HB0.out.trans (hb1.mono (Below.size HB0.out))); clear hb1 hr1)
    go_ret
    exact ⟨ret_int HE.out.symm, HB1.out.alloc (Below.size HB1.out) _⟩
  obtain ⟨hsl, h16, h5, hz16, -, -⟩ := strata_bd HS.out hq
  obtain ⟨-, hwr, -⟩ := strata_zero HS.out hq
  have HAR := Lib.hid (wrongP_iff.1 hwr).2.2
  clear hwr
  have HZ := Lib.hid hz16
  have H5 := Lib.hid h5
  have HSL := Lib.hid hsl
  clear h5 hz16 hsl
  subst hq
  have KF := Lib.hid (fun W (hW : Below w.heap.size w W) => factsRef p (.slice a p.length c) (.slice ka r.known.length kc) r.known W (H.out.up hW) (HR.out.known.up hW) HAR.out n1 N2.out NS.out.k1 M1.out)
  have KT := Lib.hid (fun W (hW : Below w.heap.size w W) => setRef (.slice na r.new.length nc) r.new W (HR.out.new.up hW) (by have := NS.out.n1; omega) (fun x hx => by have := NS.out.n2 x hx; omega) (fun x hx => ⟨by have := (M2.out x hx).2.1; omega, fun a ha => by have := (M2.out x hx).2.2 a ha; omega⟩))
  by_cases hf : (factsBad p r.known).1 = 0
  case neg =>
    have g2 : ((factsBad p r.known).1 != 0) = true := by simpa using hf
    have HE := Lib.hid (run_bad2 (st := st) hf)
    clear hf
    generalize factsBad p r.known = f at *
    obtain ⟨f1, f2⟩ := f
    dsimp only at *
    go_enter Tryz.func31, Tryz.ntmps31
    go_wp2_with (first
      | (go_at_call 16; have hh := HB1.out; clear hh; refine (KF.out _ HB1.out).mono ?_; rintro e w2 ⟨rfl, hb2⟩; have HB2 := Lib.hid (HB1.out.trans (hb2.mono (Below.size HB1.out))); clear hb2)
      | (go_at_call 20; refine (KS.out).mono ?_; rintro e w1 ⟨hb1, a1, c1, rfl, hr1⟩; have HB1 := Lib.hid ((HB0.out.trans (hb1.mono (Below.size HB0.out))).alloc (Nat.le_trans (Below.size HB0.out) hb1.size) (.cells #[.int .i64 0, .int .i64 q2] 27)); have HK1 := Lib.hid ((HK0.out.below hb1 HK0.out.lt).alloc (.cells #[.int .i64 0, .int .i64 q2] 27)); have c0 := HK1.out.cell 0; simp only [List.getElem?_toArray, List.getElem?_cons_zero] at c0; clear hb1 hr1))
    go_ret
    exact ⟨ret_int HE.out.symm, HB2.out.alloc (Below.size HB2.out) _⟩
  have HGK := Lib.hid (good_of (factsBad_set hf))
  rw [hf] at KF
  generalize hf2 : (factsBad p r.known).2 = f2 at *
  clear hf2
  by_cases hs : (setF r.new).1 = 0
  case neg =>
    have g3 : ((setF r.new).1 != 0) = true := by simpa using hs
    have HE := Lib.hid (run_bad3 (st := st) hf hs)
    clear hf hs
    generalize setF r.new = f at *
    obtain ⟨s1, s2⟩ := f
    dsimp only at *
    go_enter Tryz.func31, Tryz.ntmps31
    go_wp2_with (first
      | (go_at_call 52; have hh := HB2.out; clear hh; refine (KT.out _ HB2.out).mono ?_; rintro e w3 ⟨rfl, hb3⟩; have HB3 := Lib.hid (HB2.out.trans (hb3.mono (Below.size HB2.out))); clear hb3)
      | (go_at_call 16; have hh := HB1.out; clear hh; refine (KF.out _ HB1.out).mono ?_; rintro e w2 ⟨rfl, hb2⟩; have HB2 := Lib.hid ((HB1.out.trans (hb2.mono (Below.size HB1.out))).alloc (Nat.le_trans (Below.size HB1.out) hb2.size) (.cells #[.int .i64 0, .int .i64 f2] 27)); have HK2 := Lib.hid ((HK1.out.below hb2 HK1.out.lt).alloc (.cells #[.int .i64 0, .int .i64 f2] 27)); have d1 := HK2.out.cell 1; simp only [List.getElem?_toArray, List.getElem?_cons_zero, List.getElem?_cons_succ] at d1; clear hb2 c0)
      | (go_at_call 20; refine (KS.out).mono ?_; rintro e w1 ⟨hb1, a1, c1, rfl, hr1⟩; have HB1 := Lib.hid ((HB0.out.trans (hb1.mono (Below.size HB0.out))).alloc (Nat.le_trans (Below.size HB0.out) hb1.size) (.cells #[.int .i64 0, .int .i64 q2] 27)); have HK1 := Lib.hid ((HK0.out.below hb1 HK0.out.lt).alloc (.cells #[.int .i64 0, .int .i64 q2] 27)); have c0 := HK1.out.cell 0; simp only [List.getElem?_toArray, List.getElem?_cons_zero] at c0; clear hb1 hr1))
    go_ret
    exact ⟨ret_int HE.out.symm, HB3.out.alloc (Below.size HB3.out) _⟩
  have HGN := Lib.hid (good_of hs)
  have hsz : setF r.new = (0, 0) := (good_of hs).set
  rw [hsz] at KT
  have HE := Lib.hid (run_bad4 (st := st) hf hs)
  have KC := Lib.hid (fun W sv (h1 : RdInts (fun _ => True) W sv st) => countRef sv st W h1 (by rw [HSL.out]; omega) (fun z hz => by have := HZ.out z hz; omega))
  have KN := Lib.hid (fun W (hW : Below w.heap.size w W) f av (hav : RdStrs (fun _ => True) W av f.args) (n3 : f.args.length ≤ 1073741824) => inRef (.slice ka r.known.length kc) r.known f av W (HR.out.known.up hW) hav (by have := NS.out.k1; omega) (fun x hx => by have := NS.out.k2 x hx; omega) n3)
  clear hf hs hsz
  generalize countP st = cn at *
  obtain ⟨rk, rn, rs, rr, rd⟩ := r
  dsimp only at *
  rcases range_cases (k := rk) (l := rn) (s := rs) (x := rr) (n := cn) (d := rd) with ⟨hx, hc⟩ | ⟨hx, h1, h2, h3, h4, hc⟩
  · rw [hx, if_pos rfl] at HE
    clear hx KN
    rcases hc with h1 | ⟨h1, h2 | ⟨h2, h3 | ⟨h3, h4 | ⟨h4, ⟨rfl, rfl⟩ | ⟨h5, rfl⟩⟩⟩⟩⟩
    · have y1 : decide (rr < 0) = true := decide_eq_true h1
      go_enter Tryz.func31, Tryz.ntmps31
      go_wp2_with (first
        | (go_at_call 52; have hh := HB2.out; clear hh; refine (KT.out _ HB2.out).mono ?_; rintro e w3 ⟨rfl, hb3⟩; have HB3 := Lib.hid ((HB2.out.trans (hb3.mono (Below.size HB2.out))).alloc (Nat.le_trans (Below.size HB2.out) hb3.size) (.cells #[.int .i64 0, .int .i64 0] 27)); have HI3 := Lib.hid (HI2.out.up (hb3.alloc hb3.size (.cells #[.int .i64 0, .int .i64 0] 27))); have HK3 := Lib.hid ((HK2.out.below hb3 HK2.out.lt).alloc (.cells #[.int .i64 0, .int .i64 0] 27)); clear hb3 d1)
        | (go_at_call 16; have hh := HB1.out; clear hh; refine (KF.out _ HB1.out).mono ?_; rintro e w2 ⟨rfl, hb2⟩; have HB2 := Lib.hid ((HB1.out.trans (hb2.mono (Below.size HB1.out))).alloc (Nat.le_trans (Below.size HB1.out) hb2.size) (.cells #[.int .i64 0, .int .i64 f2] 27)); have HI2 := Lib.hid (HI1.out.up (hb2.alloc hb2.size (.cells #[.int .i64 0, .int .i64 f2] 27))); have HK2 := Lib.hid ((HK1.out.below hb2 HK1.out.lt).alloc (.cells #[.int .i64 0, .int .i64 f2] 27)); have d1 := HK2.out.cell 1; simp only [List.getElem?_toArray, List.getElem?_cons_zero, List.getElem?_cons_succ] at d1; clear hb2 c0)
        | (go_at_call 20; refine (KS.out).mono ?_; rintro e w1 ⟨hb1, a1, c1, rfl, hr1⟩; have HB1 := Lib.hid ((HB0.out.trans (hb1.mono (Below.size HB0.out))).alloc (Nat.le_trans (Below.size HB0.out) hb1.size) (.cells #[.int .i64 0, .int .i64 q2] 27)); have HI1 := Lib.hid (hr1.up ((Below.refl _ _).alloc (Nat.le_refl _) (.cells #[.int .i64 0, .int .i64 q2] 27))); have HK1 := Lib.hid ((HK0.out.below hb1 HK0.out.lt).alloc (.cells #[.int .i64 0, .int .i64 q2] 27)); have c0 := HK1.out.cell 0; simp only [List.getElem?_toArray, List.getElem?_cons_zero] at c0; clear hb1 hr1))
      generalize hw3 : w3.alloc (.cells #[.int .i64 0, .int .i64 0] 27) = w4 at *
      clear hw3
      have HID := Lib.hid (show RdInts (fun _ => True) w4.drew (.slice a1 st.length c1) st from HI3.out.agree RInt.steady (Agree.drew (Agree.refl _ _)))
      have HKD := Lib.hid HK3.out.drew
      have k2 := HKD.out.cell 2; have k3 := HKD.out.cell 3; have k4 := HKD.out.cell 4
      simp only [List.getElem?_toArray, List.getElem?_cons_zero, List.getElem?_cons_succ] at k2 k3 k4
      refine wp_region_held_drew (S := (fun w' => w'.cell? ⟨w.heap.size, 2, none⟩ = some (.int .i64 rs) ∧ w'.cell? ⟨w.heap.size, 3, none⟩ = some (.int .i64 rr) ∧ w'.cell? ⟨w.heap.size, 4, none⟩ = some (.bool rd))) (by kernel_rfl) ?_ (fun hHeld => ?_)
      · exact ⟨k2, k3, k4⟩
      refine wpAnyH_take (i := 0) (oi := ⟨some 38, _, _, _, _, _⟩) (v := ?_) rfl (by kernel_rfl) (by kernel_rfl) (by kernel_rfl) (fun _ _ _ h => h) (Or.inl ⟨by rfl, ?_⟩) (by assumption) ?_
      rotate_left
      · (intro w' hSw; (try dsimp only at hSw); go_simp; try with_reducible rfl)
      try simp only [Act.put, List.setIfInBounds_toArray, List.set_cons_zero, List.set_cons_succ]
      refine wpAnyH_take (i := 1) (oi := ⟨some 39, _, _, _, _, _⟩) (v := ?_) rfl (by kernel_rfl) (by kernel_rfl) (by kernel_rfl) (fun _ _ _ h => h) (Or.inl ⟨by rfl, ?_⟩) (by assumption) ?_
      rotate_left
      · (intro w' hSw; (try dsimp only at hSw); go_simp; try with_reducible rfl)
      try simp only [Act.put, List.setIfInBounds_toArray, List.set_cons_zero, List.set_cons_succ]
      refine wpAnyH_take (i := 2) (oi := ⟨some 40, _, _, _, _, _⟩) (v := ?_) rfl (by kernel_rfl) (by kernel_rfl) (by kernel_rfl) (fun _ _ _ h => h) (Or.inl ⟨by rfl, ?_⟩) (by assumption) ?_
      rotate_left
      · (intro w' hSw; (try dsimp only at hSw); go_simp; try with_reducible rfl)
      try simp only [Act.put, List.setIfInBounds_toArray, List.set_cons_zero, List.set_cons_succ]
      refine wpAnyH_take (i := 3) (oi := ⟨some 41, _, _, _, _, _⟩) (v := ?_) rfl (by kernel_rfl) (by kernel_rfl) (by kernel_rfl) (fun _ _ _ h => h) (Or.inl ⟨by rfl, ?_⟩) (by assumption) ?_
      rotate_left
      · (intro w' hSw; (try dsimp only at hSw); go_simp; try with_reducible rfl)
      try simp only [Act.put, List.setIfInBounds_toArray, List.set_cons_zero, List.set_cons_succ]
      refine wpAnyH_take (i := 4) (oi := ⟨some 42, _, _, _, _, _⟩) (v := undef) rfl (by kernel_rfl) (by kernel_rfl) (by kernel_rfl) (fun _ _ _ h => h) (Or.inr ⟨by rfl, rfl⟩) (by assumption) ?_
      try simp only [Act.put, List.setIfInBounds_toArray, List.set_cons_zero, List.set_cons_succ]
      refine wpAnyH_take (i := 5) (oi := ⟨some 43, _, _, _, _, _⟩) (v := undef) rfl (by kernel_rfl) (by kernel_rfl) (by kernel_rfl) (fun _ _ _ h => h) (Or.inr ⟨by rfl, rfl⟩) (by assumption) ?_
      try simp only [Act.put, List.setIfInBounds_toArray, List.set_cons_zero, List.set_cons_succ]
      refine wpAnyH_take (i := 6) (oi := ⟨some 44, _, _, _, _, _⟩) (v := undef) rfl (by kernel_rfl) (by kernel_rfl) (by kernel_rfl) (fun _ _ _ h => h) (Or.inr ⟨by rfl, rfl⟩) (by assumption) ?_
      try simp only [Act.put, List.setIfInBounds_toArray, List.set_cons_zero, List.set_cons_succ]
      refine wpAnyH_take (i := 7) (oi := ⟨some 45, _, _, _, _, _⟩) (v := ?_) rfl (by kernel_rfl) (by kernel_rfl) (by kernel_rfl) (fun _ _ _ h => h) (Or.inl ⟨by rfl, ?_⟩) (by assumption) ?_
      rotate_left
      · (intro w' hSw; (try dsimp only at hSw); go_simp; try with_reducible rfl)
      try simp only [Act.put, List.setIfInBounds_toArray, List.set_cons_zero, List.set_cons_succ]
      refine wpAnyH_take (i := 8) (oi := ⟨some 46, _, _, _, _, _⟩) (v := ?_) rfl (by kernel_rfl) (by kernel_rfl) (by kernel_rfl) (fun _ _ _ h => h) (Or.inl ⟨by rfl, ?_⟩) (by assumption) ?_
      rotate_left
      · (intro w' hSw; (try dsimp only at hSw); go_simp; try with_reducible rfl)
      try simp only [Act.put, List.setIfInBounds_toArray, List.set_cons_zero, List.set_cons_succ]
      refine wpAnyH_take (i := 9) (oi := ⟨some 47, _, _, _, _, _⟩) (v := undef) rfl (by kernel_rfl) (by kernel_rfl) (by kernel_rfl) (fun _ _ _ h => h) (Or.inr ⟨by rfl, rfl⟩) (by assumption) ?_
      try simp only [Act.put, List.setIfInBounds_toArray, List.set_cons_zero, List.set_cons_succ]
      refine wpAnyH_take (i := 10) (oi := ⟨some 48, _, _, _, _, _⟩) (v := undef) rfl (by kernel_rfl) (by kernel_rfl) (by kernel_rfl) (fun _ _ _ h => h) (Or.inr ⟨by rfl, rfl⟩) (by assumption) ?_
      try simp only [Act.put, List.setIfInBounds_toArray, List.set_cons_zero, List.set_cons_succ]
      refine wpAnyH_take (i := 11) (oi := ⟨some 49, _, _, _, _, _⟩) (v := undef) rfl (by kernel_rfl) (by kernel_rfl) (by kernel_rfl) (fun _ _ _ h => h) (Or.inr ⟨by rfl, rfl⟩) (by assumption) ?_
      try simp only [Act.put, List.setIfInBounds_toArray, List.set_cons_zero, List.set_cons_succ]
      refine wpAnyH_take (i := 12) (oi := ⟨some 50, _, _, _, _, _⟩) (v := ?_) rfl (by kernel_rfl) (by kernel_rfl) (by kernel_rfl) (fun _ _ _ h => h) (Or.inl ⟨by rfl, ?_⟩) (by assumption) ?_
      rotate_left
      · (intro w' hSw; (try dsimp only at hSw); go_simp; try with_reducible rfl)
      try simp only [Act.put, List.setIfInBounds_toArray, List.set_cons_zero, List.set_cons_succ]
      refine wpAnyH_take (i := 13) (oi := ⟨some 51, _, _, _, _, _⟩) (v := ?_) rfl (by kernel_rfl) (by kernel_rfl) (by kernel_rfl) (fun _ _ _ h => h) (Or.inl ⟨by rfl, ?_⟩) (by assumption) ?_
      rotate_left
      · (intro w' hSw; (try dsimp only at hSw); go_simp; try with_reducible rfl)
      try simp only [Act.put, List.setIfInBounds_toArray, List.set_cons_zero, List.set_cons_succ]
      refine wpAnyH_take (i := 14) (oi := ⟨some 52, _, _, _, _, _⟩) (v := undef) rfl (by kernel_rfl) (by kernel_rfl) (by kernel_rfl) (fun _ _ _ h => h) (Or.inr ⟨by rfl, rfl⟩) (by assumption) ?_
      try simp only [Act.put, List.setIfInBounds_toArray, List.set_cons_zero, List.set_cons_succ]
      refine wpAnyH_take (i := 15) (oi := ⟨some 53, _, _, _, _, _⟩) (v := undef) rfl (by kernel_rfl) (by kernel_rfl) (by kernel_rfl) (fun _ _ _ h => h) (Or.inr ⟨by rfl, rfl⟩) (by assumption) ?_
      try simp only [Act.put, List.setIfInBounds_toArray, List.set_cons_zero, List.set_cons_succ]
      refine wpAnyH_take (i := 16) (oi := ⟨some 54, _, _, _, _, _⟩) (v := undef) rfl (by kernel_rfl) (by kernel_rfl) (by kernel_rfl) (fun _ _ _ h => h) (Or.inr ⟨by rfl, rfl⟩) (by assumption) ?_
      try simp only [Act.put, List.setIfInBounds_toArray, List.set_cons_zero, List.set_cons_succ]
      refine wpAnyH_take (i := 17) (oi := ⟨some 55, _, _, _, _, _⟩) (v := undef) rfl (by kernel_rfl) (by kernel_rfl) (by kernel_rfl) (fun _ _ _ h => h) (Or.inr ⟨by rfl, rfl⟩) (by assumption) ?_
      try simp only [Act.put, List.setIfInBounds_toArray, List.set_cons_zero, List.set_cons_succ]
      refine wpAnyH_take (i := 18) (oi := ⟨some 56, _, _, _, _, _⟩) (v := undef) rfl (by kernel_rfl) (by kernel_rfl) (by kernel_rfl) (fun _ _ _ h => h) (Or.inr ⟨by rfl, rfl⟩) (by assumption) ?_
      try simp only [Act.put, List.setIfInBounds_toArray, List.set_cons_zero, List.set_cons_succ]
      refine wpAnyH_take (i := 19) (oi := ⟨some 57, _, _, _, _, _⟩) (v := ?_) rfl (by kernel_rfl) (by kernel_rfl) (by kernel_rfl) (fun _ _ _ h => h) (Or.inl ⟨by rfl, ?_⟩) (by assumption) ?_
      rotate_left
      · (intro w' hSw; (try dsimp only at hSw); go_simp; try with_reducible rfl)
      try simp only [Act.put, List.setIfInBounds_toArray, List.set_cons_zero, List.set_cons_succ]
      refine wpAnyH_take (i := 20) (oi := ⟨some 58, _, _, _, _, _⟩) (v := ?_) rfl (by kernel_rfl) (by kernel_rfl) (by kernel_rfl) (fun _ _ _ h => h) (Or.inl ⟨by rfl, ?_⟩) (by assumption) ?_
      rotate_left
      · (intro w' hSw; (try dsimp only at hSw); go_simp; try with_reducible rfl)
      try simp only [Act.put, List.setIfInBounds_toArray, List.set_cons_zero, List.set_cons_succ]
      refine wpAnyH_take (i := 21) (oi := ⟨some 59, _, _, _, _, _⟩) (v := undef) rfl (by kernel_rfl) (by kernel_rfl) (by kernel_rfl) (fun _ _ _ h => h) (Or.inr ⟨by rfl, rfl⟩) (by assumption) ?_
      try simp only [Act.put, List.setIfInBounds_toArray, List.set_cons_zero, List.set_cons_succ]
      refine wpAnyH_take (i := 22) (oi := ⟨some 60, _, _, _, _, _⟩) (v := undef) rfl (by kernel_rfl) (by kernel_rfl) (by kernel_rfl) (fun _ _ _ h => h) (Or.inr ⟨by rfl, rfl⟩) (by assumption) ?_
      try simp only [Act.put, List.setIfInBounds_toArray, List.set_cons_zero, List.set_cons_succ]
      refine wpAnyH_take (i := 23) (oi := ⟨some 61, _, _, _, _, _⟩) (v := undef) rfl (by kernel_rfl) (by kernel_rfl) (by kernel_rfl) (fun _ _ _ h => h) (Or.inr ⟨by rfl, rfl⟩) (by assumption) ?_
      try simp only [Act.put, List.setIfInBounds_toArray, List.set_cons_zero, List.set_cons_succ]
      refine wpAnyH_take (i := 24) (oi := ⟨some 62, _, _, _, _, _⟩) (v := undef) rfl (by kernel_rfl) (by kernel_rfl) (by kernel_rfl) (fun _ _ _ h => h) (Or.inr ⟨by rfl, rfl⟩) (by assumption) ?_
      try simp only [Act.put, List.setIfInBounds_toArray, List.set_cons_zero, List.set_cons_succ]
      refine wpAnyH_take (i := 25) (oi := ⟨some 63, _, _, _, _, _⟩) (v := undef) rfl (by kernel_rfl) (by kernel_rfl) (by kernel_rfl) (fun _ _ _ h => h) (Or.inr ⟨by rfl, rfl⟩) (by assumption) ?_
      try simp only [Act.put, List.setIfInBounds_toArray, List.set_cons_zero, List.set_cons_succ]
      refine wpAnyH_take (i := 26) (oi := ⟨some 64, _, _, _, _, _⟩) (v := undef) rfl (by kernel_rfl) (by kernel_rfl) (by kernel_rfl) (fun _ _ _ h => h) (Or.inr ⟨by rfl, rfl⟩) (by assumption) ?_
      try simp only [Act.put, List.setIfInBounds_toArray, List.set_cons_zero, List.set_cons_succ]
      refine wpAnyH_take (i := 27) (oi := ⟨some 65, _, _, _, _, _⟩) (v := undef) rfl (by kernel_rfl) (by kernel_rfl) (by kernel_rfl) (fun _ _ _ h => h) (Or.inr ⟨by rfl, rfl⟩) (by assumption) ?_
      try simp only [Act.put, List.setIfInBounds_toArray, List.set_cons_zero, List.set_cons_succ]
      refine wpAnyH_take (i := 28) (oi := ⟨some 66, _, _, _, _, _⟩) (v := undef) rfl (by kernel_rfl) (by kernel_rfl) (by kernel_rfl) (fun _ _ _ h => h) (Or.inr ⟨by rfl, rfl⟩) (by assumption) ?_
      try simp only [Act.put, List.setIfInBounds_toArray, List.set_cons_zero, List.set_cons_succ]
      refine wpAnyH_take (i := 29) (oi := ⟨some 67, _, _, _, _, _⟩) (v := ?_) rfl (by kernel_rfl) (by kernel_rfl) (by kernel_rfl) (fun _ _ _ h => h) (Or.inl ⟨by rfl, ?_⟩) (by assumption) ?_
      rotate_left
      · (intro w' hSw; (try dsimp only at hSw); go_simp; try with_reducible rfl)
      try simp only [Act.put, List.setIfInBounds_toArray, List.set_cons_zero, List.set_cons_succ]
      refine wpAnyH_done (by kernel_rfl) ?_ _
      go_wp2
      go_ret
      exact ⟨ret_int HE.out.symm, HB3.out.drew⟩
    · have y1 : decide (rr < 0) = false := decide_eq_false h1
      have y2 : decide (1000 < rr) = true := decide_eq_true h2
      go_enter Tryz.func31, Tryz.ntmps31
      go_wp2_with (first
        | (go_at_call 52; have hh := HB2.out; clear hh; refine (KT.out _ HB2.out).mono ?_; rintro e w3 ⟨rfl, hb3⟩; have HB3 := Lib.hid ((HB2.out.trans (hb3.mono (Below.size HB2.out))).alloc (Nat.le_trans (Below.size HB2.out) hb3.size) (.cells #[.int .i64 0, .int .i64 0] 27)); have HI3 := Lib.hid (HI2.out.up (hb3.alloc hb3.size (.cells #[.int .i64 0, .int .i64 0] 27))); have HK3 := Lib.hid ((HK2.out.below hb3 HK2.out.lt).alloc (.cells #[.int .i64 0, .int .i64 0] 27)); clear hb3 d1)
        | (go_at_call 16; have hh := HB1.out; clear hh; refine (KF.out _ HB1.out).mono ?_; rintro e w2 ⟨rfl, hb2⟩; have HB2 := Lib.hid ((HB1.out.trans (hb2.mono (Below.size HB1.out))).alloc (Nat.le_trans (Below.size HB1.out) hb2.size) (.cells #[.int .i64 0, .int .i64 f2] 27)); have HI2 := Lib.hid (HI1.out.up (hb2.alloc hb2.size (.cells #[.int .i64 0, .int .i64 f2] 27))); have HK2 := Lib.hid ((HK1.out.below hb2 HK1.out.lt).alloc (.cells #[.int .i64 0, .int .i64 f2] 27)); have d1 := HK2.out.cell 1; simp only [List.getElem?_toArray, List.getElem?_cons_zero, List.getElem?_cons_succ] at d1; clear hb2 c0)
        | (go_at_call 20; refine (KS.out).mono ?_; rintro e w1 ⟨hb1, a1, c1, rfl, hr1⟩; have HB1 := Lib.hid ((HB0.out.trans (hb1.mono (Below.size HB0.out))).alloc (Nat.le_trans (Below.size HB0.out) hb1.size) (.cells #[.int .i64 0, .int .i64 q2] 27)); have HI1 := Lib.hid (hr1.up ((Below.refl _ _).alloc (Nat.le_refl _) (.cells #[.int .i64 0, .int .i64 q2] 27))); have HK1 := Lib.hid ((HK0.out.below hb1 HK0.out.lt).alloc (.cells #[.int .i64 0, .int .i64 q2] 27)); have c0 := HK1.out.cell 0; simp only [List.getElem?_toArray, List.getElem?_cons_zero] at c0; clear hb1 hr1))
      generalize hw3 : w3.alloc (.cells #[.int .i64 0, .int .i64 0] 27) = w4 at *
      clear hw3
      have HID := Lib.hid (show RdInts (fun _ => True) w4.drew (.slice a1 st.length c1) st from HI3.out.agree RInt.steady (Agree.drew (Agree.refl _ _)))
      have HKD := Lib.hid HK3.out.drew
      have k2 := HKD.out.cell 2; have k3 := HKD.out.cell 3; have k4 := HKD.out.cell 4
      simp only [List.getElem?_toArray, List.getElem?_cons_zero, List.getElem?_cons_succ] at k2 k3 k4
      refine wp_region_held_drew (S := (fun w' => w'.cell? ⟨w.heap.size, 2, none⟩ = some (.int .i64 rs) ∧ w'.cell? ⟨w.heap.size, 3, none⟩ = some (.int .i64 rr) ∧ w'.cell? ⟨w.heap.size, 4, none⟩ = some (.bool rd))) (by kernel_rfl) ?_ (fun hHeld => ?_)
      · exact ⟨k2, k3, k4⟩
      refine wpAnyH_take (i := 0) (oi := ⟨some 38, _, _, _, _, _⟩) (v := ?_) rfl (by kernel_rfl) (by kernel_rfl) (by kernel_rfl) (fun _ _ _ h => h) (Or.inl ⟨by rfl, ?_⟩) (by assumption) ?_
      rotate_left
      · (intro w' hSw; (try dsimp only at hSw); go_simp; try with_reducible rfl)
      try simp only [Act.put, List.setIfInBounds_toArray, List.set_cons_zero, List.set_cons_succ]
      refine wpAnyH_take (i := 1) (oi := ⟨some 39, _, _, _, _, _⟩) (v := ?_) rfl (by kernel_rfl) (by kernel_rfl) (by kernel_rfl) (fun _ _ _ h => h) (Or.inl ⟨by rfl, ?_⟩) (by assumption) ?_
      rotate_left
      · (intro w' hSw; (try dsimp only at hSw); go_simp; try with_reducible rfl)
      try simp only [Act.put, List.setIfInBounds_toArray, List.set_cons_zero, List.set_cons_succ]
      refine wpAnyH_take (i := 2) (oi := ⟨some 40, _, _, _, _, _⟩) (v := ?_) rfl (by kernel_rfl) (by kernel_rfl) (by kernel_rfl) (fun _ _ _ h => h) (Or.inl ⟨by rfl, ?_⟩) (by assumption) ?_
      rotate_left
      · (intro w' hSw; (try dsimp only at hSw); go_simp; try with_reducible rfl)
      try simp only [Act.put, List.setIfInBounds_toArray, List.set_cons_zero, List.set_cons_succ]
      refine wpAnyH_take (i := 3) (oi := ⟨some 41, _, _, _, _, _⟩) (v := ?_) rfl (by kernel_rfl) (by kernel_rfl) (by kernel_rfl) (fun _ _ _ h => h) (Or.inl ⟨by rfl, ?_⟩) (by assumption) ?_
      rotate_left
      · (intro w' hSw; (try dsimp only at hSw); go_simp; try with_reducible rfl)
      try simp only [Act.put, List.setIfInBounds_toArray, List.set_cons_zero, List.set_cons_succ]
      refine wpAnyH_take (i := 4) (oi := ⟨some 42, _, _, _, _, _⟩) (v := ?_) rfl (by kernel_rfl) (by kernel_rfl) (by kernel_rfl) (fun _ _ _ h => h) (Or.inl ⟨by rfl, ?_⟩) (by assumption) ?_
      rotate_left
      · (intro w' hSw; (try dsimp only at hSw); go_simp; try with_reducible rfl)
      try simp only [Act.put, List.setIfInBounds_toArray, List.set_cons_zero, List.set_cons_succ]
      refine wpAnyH_take (i := 5) (oi := ⟨some 43, _, _, _, _, _⟩) (v := ?_) rfl (by kernel_rfl) (by kernel_rfl) (by kernel_rfl) (fun _ _ _ h => h) (Or.inl ⟨by rfl, ?_⟩) (by assumption) ?_
      rotate_left
      · (intro w' hSw; (try dsimp only at hSw); go_simp; try with_reducible rfl)
      try simp only [Act.put, List.setIfInBounds_toArray, List.set_cons_zero, List.set_cons_succ]
      refine wpAnyH_take (i := 6) (oi := ⟨some 44, _, _, _, _, _⟩) (v := ?_) rfl (by kernel_rfl) (by kernel_rfl) (by kernel_rfl) (fun _ _ _ h => h) (Or.inl ⟨by rfl, ?_⟩) (by assumption) ?_
      rotate_left
      · (intro w' hSw; (try dsimp only at hSw); go_simp; try with_reducible rfl)
      try simp only [Act.put, List.setIfInBounds_toArray, List.set_cons_zero, List.set_cons_succ]
      refine wpAnyH_take (i := 7) (oi := ⟨some 45, _, _, _, _, _⟩) (v := ?_) rfl (by kernel_rfl) (by kernel_rfl) (by kernel_rfl) (fun _ _ _ h => h) (Or.inl ⟨by rfl, ?_⟩) (by assumption) ?_
      rotate_left
      · (intro w' hSw; (try dsimp only at hSw); go_simp; try with_reducible rfl)
      try simp only [Act.put, List.setIfInBounds_toArray, List.set_cons_zero, List.set_cons_succ]
      refine wpAnyH_take (i := 8) (oi := ⟨some 46, _, _, _, _, _⟩) (v := ?_) rfl (by kernel_rfl) (by kernel_rfl) (by kernel_rfl) (fun _ _ _ h => h) (Or.inl ⟨by rfl, ?_⟩) (by assumption) ?_
      rotate_left
      · (intro w' hSw; (try dsimp only at hSw); go_simp; try with_reducible rfl)
      try simp only [Act.put, List.setIfInBounds_toArray, List.set_cons_zero, List.set_cons_succ]
      refine wpAnyH_take (i := 9) (oi := ⟨some 47, _, _, _, _, _⟩) (v := undef) rfl (by kernel_rfl) (by kernel_rfl) (by kernel_rfl) (fun _ _ _ h => h) (Or.inr ⟨by rfl, rfl⟩) (by assumption) ?_
      try simp only [Act.put, List.setIfInBounds_toArray, List.set_cons_zero, List.set_cons_succ]
      refine wpAnyH_take (i := 10) (oi := ⟨some 48, _, _, _, _, _⟩) (v := undef) rfl (by kernel_rfl) (by kernel_rfl) (by kernel_rfl) (fun _ _ _ h => h) (Or.inr ⟨by rfl, rfl⟩) (by assumption) ?_
      try simp only [Act.put, List.setIfInBounds_toArray, List.set_cons_zero, List.set_cons_succ]
      refine wpAnyH_take (i := 11) (oi := ⟨some 49, _, _, _, _, _⟩) (v := undef) rfl (by kernel_rfl) (by kernel_rfl) (by kernel_rfl) (fun _ _ _ h => h) (Or.inr ⟨by rfl, rfl⟩) (by assumption) ?_
      try simp only [Act.put, List.setIfInBounds_toArray, List.set_cons_zero, List.set_cons_succ]
      refine wpAnyH_take (i := 12) (oi := ⟨some 50, _, _, _, _, _⟩) (v := ?_) rfl (by kernel_rfl) (by kernel_rfl) (by kernel_rfl) (fun _ _ _ h => h) (Or.inl ⟨by rfl, ?_⟩) (by assumption) ?_
      rotate_left
      · (intro w' hSw; (try dsimp only at hSw); go_simp; try with_reducible rfl)
      try simp only [Act.put, List.setIfInBounds_toArray, List.set_cons_zero, List.set_cons_succ]
      refine wpAnyH_take (i := 13) (oi := ⟨some 51, _, _, _, _, _⟩) (v := ?_) rfl (by kernel_rfl) (by kernel_rfl) (by kernel_rfl) (fun _ _ _ h => h) (Or.inl ⟨by rfl, ?_⟩) (by assumption) ?_
      rotate_left
      · (intro w' hSw; (try dsimp only at hSw); go_simp; try with_reducible rfl)
      try simp only [Act.put, List.setIfInBounds_toArray, List.set_cons_zero, List.set_cons_succ]
      refine wpAnyH_take (i := 14) (oi := ⟨some 52, _, _, _, _, _⟩) (v := undef) rfl (by kernel_rfl) (by kernel_rfl) (by kernel_rfl) (fun _ _ _ h => h) (Or.inr ⟨by rfl, rfl⟩) (by assumption) ?_
      try simp only [Act.put, List.setIfInBounds_toArray, List.set_cons_zero, List.set_cons_succ]
      refine wpAnyH_take (i := 15) (oi := ⟨some 53, _, _, _, _, _⟩) (v := undef) rfl (by kernel_rfl) (by kernel_rfl) (by kernel_rfl) (fun _ _ _ h => h) (Or.inr ⟨by rfl, rfl⟩) (by assumption) ?_
      try simp only [Act.put, List.setIfInBounds_toArray, List.set_cons_zero, List.set_cons_succ]
      refine wpAnyH_take (i := 16) (oi := ⟨some 54, _, _, _, _, _⟩) (v := undef) rfl (by kernel_rfl) (by kernel_rfl) (by kernel_rfl) (fun _ _ _ h => h) (Or.inr ⟨by rfl, rfl⟩) (by assumption) ?_
      try simp only [Act.put, List.setIfInBounds_toArray, List.set_cons_zero, List.set_cons_succ]
      refine wpAnyH_take (i := 17) (oi := ⟨some 55, _, _, _, _, _⟩) (v := undef) rfl (by kernel_rfl) (by kernel_rfl) (by kernel_rfl) (fun _ _ _ h => h) (Or.inr ⟨by rfl, rfl⟩) (by assumption) ?_
      try simp only [Act.put, List.setIfInBounds_toArray, List.set_cons_zero, List.set_cons_succ]
      refine wpAnyH_take (i := 18) (oi := ⟨some 56, _, _, _, _, _⟩) (v := undef) rfl (by kernel_rfl) (by kernel_rfl) (by kernel_rfl) (fun _ _ _ h => h) (Or.inr ⟨by rfl, rfl⟩) (by assumption) ?_
      try simp only [Act.put, List.setIfInBounds_toArray, List.set_cons_zero, List.set_cons_succ]
      refine wpAnyH_take (i := 19) (oi := ⟨some 57, _, _, _, _, _⟩) (v := ?_) rfl (by kernel_rfl) (by kernel_rfl) (by kernel_rfl) (fun _ _ _ h => h) (Or.inl ⟨by rfl, ?_⟩) (by assumption) ?_
      rotate_left
      · (intro w' hSw; (try dsimp only at hSw); go_simp; try with_reducible rfl)
      try simp only [Act.put, List.setIfInBounds_toArray, List.set_cons_zero, List.set_cons_succ]
      refine wpAnyH_take (i := 20) (oi := ⟨some 58, _, _, _, _, _⟩) (v := ?_) rfl (by kernel_rfl) (by kernel_rfl) (by kernel_rfl) (fun _ _ _ h => h) (Or.inl ⟨by rfl, ?_⟩) (by assumption) ?_
      rotate_left
      · (intro w' hSw; (try dsimp only at hSw); go_simp; try with_reducible rfl)
      try simp only [Act.put, List.setIfInBounds_toArray, List.set_cons_zero, List.set_cons_succ]
      refine wpAnyH_take (i := 21) (oi := ⟨some 59, _, _, _, _, _⟩) (v := undef) rfl (by kernel_rfl) (by kernel_rfl) (by kernel_rfl) (fun _ _ _ h => h) (Or.inr ⟨by rfl, rfl⟩) (by assumption) ?_
      try simp only [Act.put, List.setIfInBounds_toArray, List.set_cons_zero, List.set_cons_succ]
      refine wpAnyH_take (i := 22) (oi := ⟨some 60, _, _, _, _, _⟩) (v := undef) rfl (by kernel_rfl) (by kernel_rfl) (by kernel_rfl) (fun _ _ _ h => h) (Or.inr ⟨by rfl, rfl⟩) (by assumption) ?_
      try simp only [Act.put, List.setIfInBounds_toArray, List.set_cons_zero, List.set_cons_succ]
      refine wpAnyH_take (i := 23) (oi := ⟨some 61, _, _, _, _, _⟩) (v := undef) rfl (by kernel_rfl) (by kernel_rfl) (by kernel_rfl) (fun _ _ _ h => h) (Or.inr ⟨by rfl, rfl⟩) (by assumption) ?_
      try simp only [Act.put, List.setIfInBounds_toArray, List.set_cons_zero, List.set_cons_succ]
      refine wpAnyH_take (i := 24) (oi := ⟨some 62, _, _, _, _, _⟩) (v := undef) rfl (by kernel_rfl) (by kernel_rfl) (by kernel_rfl) (fun _ _ _ h => h) (Or.inr ⟨by rfl, rfl⟩) (by assumption) ?_
      try simp only [Act.put, List.setIfInBounds_toArray, List.set_cons_zero, List.set_cons_succ]
      refine wpAnyH_take (i := 25) (oi := ⟨some 63, _, _, _, _, _⟩) (v := undef) rfl (by kernel_rfl) (by kernel_rfl) (by kernel_rfl) (fun _ _ _ h => h) (Or.inr ⟨by rfl, rfl⟩) (by assumption) ?_
      try simp only [Act.put, List.setIfInBounds_toArray, List.set_cons_zero, List.set_cons_succ]
      refine wpAnyH_take (i := 26) (oi := ⟨some 64, _, _, _, _, _⟩) (v := undef) rfl (by kernel_rfl) (by kernel_rfl) (by kernel_rfl) (fun _ _ _ h => h) (Or.inr ⟨by rfl, rfl⟩) (by assumption) ?_
      try simp only [Act.put, List.setIfInBounds_toArray, List.set_cons_zero, List.set_cons_succ]
      refine wpAnyH_take (i := 27) (oi := ⟨some 65, _, _, _, _, _⟩) (v := undef) rfl (by kernel_rfl) (by kernel_rfl) (by kernel_rfl) (fun _ _ _ h => h) (Or.inr ⟨by rfl, rfl⟩) (by assumption) ?_
      try simp only [Act.put, List.setIfInBounds_toArray, List.set_cons_zero, List.set_cons_succ]
      refine wpAnyH_take (i := 28) (oi := ⟨some 66, _, _, _, _, _⟩) (v := undef) rfl (by kernel_rfl) (by kernel_rfl) (by kernel_rfl) (fun _ _ _ h => h) (Or.inr ⟨by rfl, rfl⟩) (by assumption) ?_
      try simp only [Act.put, List.setIfInBounds_toArray, List.set_cons_zero, List.set_cons_succ]
      refine wpAnyH_take (i := 29) (oi := ⟨some 67, _, _, _, _, _⟩) (v := ?_) rfl (by kernel_rfl) (by kernel_rfl) (by kernel_rfl) (fun _ _ _ h => h) (Or.inl ⟨by rfl, ?_⟩) (by assumption) ?_
      rotate_left
      · (intro w' hSw; (try dsimp only at hSw); go_simp; try with_reducible rfl)
      try simp only [Act.put, List.setIfInBounds_toArray, List.set_cons_zero, List.set_cons_succ]
      refine wpAnyH_done (by kernel_rfl) ?_ _
      go_wp2
      go_ret
      exact ⟨ret_int HE.out.symm, HB3.out.drew⟩
    · have y1 : decide (rr < 0) = false := decide_eq_false h1
      have y2 : decide (1000 < rr) = false := decide_eq_false h2
      have y3 : decide (rs < 0) = true := decide_eq_true h3
      go_enter Tryz.func31, Tryz.ntmps31
      go_wp2_with (first
        | (go_at_call 52; have hh := HB2.out; clear hh; refine (KT.out _ HB2.out).mono ?_; rintro e w3 ⟨rfl, hb3⟩; have HB3 := Lib.hid ((HB2.out.trans (hb3.mono (Below.size HB2.out))).alloc (Nat.le_trans (Below.size HB2.out) hb3.size) (.cells #[.int .i64 0, .int .i64 0] 27)); have HI3 := Lib.hid (HI2.out.up (hb3.alloc hb3.size (.cells #[.int .i64 0, .int .i64 0] 27))); have HK3 := Lib.hid ((HK2.out.below hb3 HK2.out.lt).alloc (.cells #[.int .i64 0, .int .i64 0] 27)); clear hb3 d1)
        | (go_at_call 16; have hh := HB1.out; clear hh; refine (KF.out _ HB1.out).mono ?_; rintro e w2 ⟨rfl, hb2⟩; have HB2 := Lib.hid ((HB1.out.trans (hb2.mono (Below.size HB1.out))).alloc (Nat.le_trans (Below.size HB1.out) hb2.size) (.cells #[.int .i64 0, .int .i64 f2] 27)); have HI2 := Lib.hid (HI1.out.up (hb2.alloc hb2.size (.cells #[.int .i64 0, .int .i64 f2] 27))); have HK2 := Lib.hid ((HK1.out.below hb2 HK1.out.lt).alloc (.cells #[.int .i64 0, .int .i64 f2] 27)); have d1 := HK2.out.cell 1; simp only [List.getElem?_toArray, List.getElem?_cons_zero, List.getElem?_cons_succ] at d1; clear hb2 c0)
        | (go_at_call 20; refine (KS.out).mono ?_; rintro e w1 ⟨hb1, a1, c1, rfl, hr1⟩; have HB1 := Lib.hid ((HB0.out.trans (hb1.mono (Below.size HB0.out))).alloc (Nat.le_trans (Below.size HB0.out) hb1.size) (.cells #[.int .i64 0, .int .i64 q2] 27)); have HI1 := Lib.hid (hr1.up ((Below.refl _ _).alloc (Nat.le_refl _) (.cells #[.int .i64 0, .int .i64 q2] 27))); have HK1 := Lib.hid ((HK0.out.below hb1 HK0.out.lt).alloc (.cells #[.int .i64 0, .int .i64 q2] 27)); have c0 := HK1.out.cell 0; simp only [List.getElem?_toArray, List.getElem?_cons_zero] at c0; clear hb1 hr1))
      generalize hw3 : w3.alloc (.cells #[.int .i64 0, .int .i64 0] 27) = w4 at *
      clear hw3
      have HID := Lib.hid (show RdInts (fun _ => True) w4.drew (.slice a1 st.length c1) st from HI3.out.agree RInt.steady (Agree.drew (Agree.refl _ _)))
      have HKD := Lib.hid HK3.out.drew
      have k2 := HKD.out.cell 2; have k3 := HKD.out.cell 3; have k4 := HKD.out.cell 4
      simp only [List.getElem?_toArray, List.getElem?_cons_zero, List.getElem?_cons_succ] at k2 k3 k4
      refine wp_region_held_drew (S := (fun w' => w'.cell? ⟨w.heap.size, 2, none⟩ = some (.int .i64 rs) ∧ w'.cell? ⟨w.heap.size, 3, none⟩ = some (.int .i64 rr) ∧ w'.cell? ⟨w.heap.size, 4, none⟩ = some (.bool rd))) (by kernel_rfl) ?_ (fun hHeld => ?_)
      · exact ⟨k2, k3, k4⟩
      refine wpAnyH_take (i := 0) (oi := ⟨some 38, _, _, _, _, _⟩) (v := ?_) rfl (by kernel_rfl) (by kernel_rfl) (by kernel_rfl) (fun _ _ _ h => h) (Or.inl ⟨by rfl, ?_⟩) (by assumption) ?_
      rotate_left
      · (intro w' hSw; (try dsimp only at hSw); go_simp; try with_reducible rfl)
      try simp only [Act.put, List.setIfInBounds_toArray, List.set_cons_zero, List.set_cons_succ]
      refine wpAnyH_take (i := 1) (oi := ⟨some 39, _, _, _, _, _⟩) (v := ?_) rfl (by kernel_rfl) (by kernel_rfl) (by kernel_rfl) (fun _ _ _ h => h) (Or.inl ⟨by rfl, ?_⟩) (by assumption) ?_
      rotate_left
      · (intro w' hSw; (try dsimp only at hSw); go_simp; try with_reducible rfl)
      try simp only [Act.put, List.setIfInBounds_toArray, List.set_cons_zero, List.set_cons_succ]
      refine wpAnyH_take (i := 2) (oi := ⟨some 40, _, _, _, _, _⟩) (v := ?_) rfl (by kernel_rfl) (by kernel_rfl) (by kernel_rfl) (fun _ _ _ h => h) (Or.inl ⟨by rfl, ?_⟩) (by assumption) ?_
      rotate_left
      · (intro w' hSw; (try dsimp only at hSw); go_simp; try with_reducible rfl)
      try simp only [Act.put, List.setIfInBounds_toArray, List.set_cons_zero, List.set_cons_succ]
      refine wpAnyH_take (i := 3) (oi := ⟨some 41, _, _, _, _, _⟩) (v := ?_) rfl (by kernel_rfl) (by kernel_rfl) (by kernel_rfl) (fun _ _ _ h => h) (Or.inl ⟨by rfl, ?_⟩) (by assumption) ?_
      rotate_left
      · (intro w' hSw; (try dsimp only at hSw); go_simp; try with_reducible rfl)
      try simp only [Act.put, List.setIfInBounds_toArray, List.set_cons_zero, List.set_cons_succ]
      refine wpAnyH_take (i := 4) (oi := ⟨some 42, _, _, _, _, _⟩) (v := ?_) rfl (by kernel_rfl) (by kernel_rfl) (by kernel_rfl) (fun _ _ _ h => h) (Or.inl ⟨by rfl, ?_⟩) (by assumption) ?_
      rotate_left
      · (intro w' hSw; (try dsimp only at hSw); go_simp; try with_reducible rfl)
      try simp only [Act.put, List.setIfInBounds_toArray, List.set_cons_zero, List.set_cons_succ]
      refine wpAnyH_take (i := 5) (oi := ⟨some 43, _, _, _, _, _⟩) (v := ?_) rfl (by kernel_rfl) (by kernel_rfl) (by kernel_rfl) (fun _ _ _ h => h) (Or.inl ⟨by rfl, ?_⟩) (by assumption) ?_
      rotate_left
      · (intro w' hSw; (try dsimp only at hSw); go_simp; try with_reducible rfl)
      try simp only [Act.put, List.setIfInBounds_toArray, List.set_cons_zero, List.set_cons_succ]
      refine wpAnyH_take (i := 6) (oi := ⟨some 44, _, _, _, _, _⟩) (v := ?_) rfl (by kernel_rfl) (by kernel_rfl) (by kernel_rfl) (fun _ _ _ h => h) (Or.inl ⟨by rfl, ?_⟩) (by assumption) ?_
      rotate_left
      · (intro w' hSw; (try dsimp only at hSw); go_simp; try with_reducible rfl)
      try simp only [Act.put, List.setIfInBounds_toArray, List.set_cons_zero, List.set_cons_succ]
      refine wpAnyH_take (i := 7) (oi := ⟨some 45, _, _, _, _, _⟩) (v := ?_) rfl (by kernel_rfl) (by kernel_rfl) (by kernel_rfl) (fun _ _ _ h => h) (Or.inl ⟨by rfl, ?_⟩) (by assumption) ?_
      rotate_left
      · (intro w' hSw; (try dsimp only at hSw); go_simp; try with_reducible rfl)
      try simp only [Act.put, List.setIfInBounds_toArray, List.set_cons_zero, List.set_cons_succ]
      refine wpAnyH_take (i := 8) (oi := ⟨some 46, _, _, _, _, _⟩) (v := ?_) rfl (by kernel_rfl) (by kernel_rfl) (by kernel_rfl) (fun _ _ _ h => h) (Or.inl ⟨by rfl, ?_⟩) (by assumption) ?_
      rotate_left
      · (intro w' hSw; (try dsimp only at hSw); go_simp; try with_reducible rfl)
      try simp only [Act.put, List.setIfInBounds_toArray, List.set_cons_zero, List.set_cons_succ]
      refine wpAnyH_take (i := 9) (oi := ⟨some 47, _, _, _, _, _⟩) (v := ?_) rfl (by kernel_rfl) (by kernel_rfl) (by kernel_rfl) (fun _ _ _ h => h) (Or.inl ⟨by rfl, ?_⟩) (by assumption) ?_
      rotate_left
      · (intro w' hSw; (try dsimp only at hSw); go_simp; try with_reducible rfl)
      try simp only [Act.put, List.setIfInBounds_toArray, List.set_cons_zero, List.set_cons_succ]
      refine wpAnyH_take (i := 10) (oi := ⟨some 48, _, _, _, _, _⟩) (v := ?_) rfl (by kernel_rfl) (by kernel_rfl) (by kernel_rfl) (fun _ _ _ h => h) (Or.inl ⟨by rfl, ?_⟩) (by assumption) ?_
      rotate_left
      · (intro w' hSw; (try dsimp only at hSw); go_simp; try with_reducible rfl)
      try simp only [Act.put, List.setIfInBounds_toArray, List.set_cons_zero, List.set_cons_succ]
      refine wpAnyH_take (i := 11) (oi := ⟨some 49, _, _, _, _, _⟩) (v := ?_) rfl (by kernel_rfl) (by kernel_rfl) (by kernel_rfl) (fun _ _ _ h => h) (Or.inl ⟨by rfl, ?_⟩) (by assumption) ?_
      rotate_left
      · (intro w' hSw; (try dsimp only at hSw); go_simp; try with_reducible rfl)
      try simp only [Act.put, List.setIfInBounds_toArray, List.set_cons_zero, List.set_cons_succ]
      refine wpAnyH_take (i := 12) (oi := ⟨some 50, _, _, _, _, _⟩) (v := ?_) rfl (by kernel_rfl) (by kernel_rfl) (by kernel_rfl) (fun _ _ _ h => h) (Or.inl ⟨by rfl, ?_⟩) (by assumption) ?_
      rotate_left
      · (intro w' hSw; (try dsimp only at hSw); go_simp; try with_reducible rfl)
      try simp only [Act.put, List.setIfInBounds_toArray, List.set_cons_zero, List.set_cons_succ]
      refine wpAnyH_take (i := 13) (oi := ⟨some 51, _, _, _, _, _⟩) (v := ?_) rfl (by kernel_rfl) (by kernel_rfl) (by kernel_rfl) (fun _ _ _ h => h) (Or.inl ⟨by rfl, ?_⟩) (by assumption) ?_
      rotate_left
      · (intro w' hSw; (try dsimp only at hSw); go_simp; try with_reducible rfl)
      try simp only [Act.put, List.setIfInBounds_toArray, List.set_cons_zero, List.set_cons_succ]
      refine wpAnyH_take (i := 14) (oi := ⟨some 52, _, _, _, _, _⟩) (v := undef) rfl (by kernel_rfl) (by kernel_rfl) (by kernel_rfl) (fun _ _ _ h => h) (Or.inr ⟨by rfl, rfl⟩) (by assumption) ?_
      try simp only [Act.put, List.setIfInBounds_toArray, List.set_cons_zero, List.set_cons_succ]
      refine wpAnyH_take (i := 15) (oi := ⟨some 53, _, _, _, _, _⟩) (v := undef) rfl (by kernel_rfl) (by kernel_rfl) (by kernel_rfl) (fun _ _ _ h => h) (Or.inr ⟨by rfl, rfl⟩) (by assumption) ?_
      try simp only [Act.put, List.setIfInBounds_toArray, List.set_cons_zero, List.set_cons_succ]
      refine wpAnyH_take (i := 16) (oi := ⟨some 54, _, _, _, _, _⟩) (v := undef) rfl (by kernel_rfl) (by kernel_rfl) (by kernel_rfl) (fun _ _ _ h => h) (Or.inr ⟨by rfl, rfl⟩) (by assumption) ?_
      try simp only [Act.put, List.setIfInBounds_toArray, List.set_cons_zero, List.set_cons_succ]
      refine wpAnyH_take (i := 17) (oi := ⟨some 55, _, _, _, _, _⟩) (v := undef) rfl (by kernel_rfl) (by kernel_rfl) (by kernel_rfl) (fun _ _ _ h => h) (Or.inr ⟨by rfl, rfl⟩) (by assumption) ?_
      try simp only [Act.put, List.setIfInBounds_toArray, List.set_cons_zero, List.set_cons_succ]
      refine wpAnyH_take (i := 18) (oi := ⟨some 56, _, _, _, _, _⟩) (v := undef) rfl (by kernel_rfl) (by kernel_rfl) (by kernel_rfl) (fun _ _ _ h => h) (Or.inr ⟨by rfl, rfl⟩) (by assumption) ?_
      try simp only [Act.put, List.setIfInBounds_toArray, List.set_cons_zero, List.set_cons_succ]
      refine wpAnyH_take (i := 19) (oi := ⟨some 57, _, _, _, _, _⟩) (v := ?_) rfl (by kernel_rfl) (by kernel_rfl) (by kernel_rfl) (fun _ _ _ h => h) (Or.inl ⟨by rfl, ?_⟩) (by assumption) ?_
      rotate_left
      · (intro w' hSw; (try dsimp only at hSw); go_simp; try with_reducible rfl)
      try simp only [Act.put, List.setIfInBounds_toArray, List.set_cons_zero, List.set_cons_succ]
      refine wpAnyH_take (i := 20) (oi := ⟨some 58, _, _, _, _, _⟩) (v := ?_) rfl (by kernel_rfl) (by kernel_rfl) (by kernel_rfl) (fun _ _ _ h => h) (Or.inl ⟨by rfl, ?_⟩) (by assumption) ?_
      rotate_left
      · (intro w' hSw; (try dsimp only at hSw); go_simp; try with_reducible rfl)
      try simp only [Act.put, List.setIfInBounds_toArray, List.set_cons_zero, List.set_cons_succ]
      refine wpAnyH_take (i := 21) (oi := ⟨some 59, _, _, _, _, _⟩) (v := undef) rfl (by kernel_rfl) (by kernel_rfl) (by kernel_rfl) (fun _ _ _ h => h) (Or.inr ⟨by rfl, rfl⟩) (by assumption) ?_
      try simp only [Act.put, List.setIfInBounds_toArray, List.set_cons_zero, List.set_cons_succ]
      refine wpAnyH_take (i := 22) (oi := ⟨some 60, _, _, _, _, _⟩) (v := undef) rfl (by kernel_rfl) (by kernel_rfl) (by kernel_rfl) (fun _ _ _ h => h) (Or.inr ⟨by rfl, rfl⟩) (by assumption) ?_
      try simp only [Act.put, List.setIfInBounds_toArray, List.set_cons_zero, List.set_cons_succ]
      refine wpAnyH_take (i := 23) (oi := ⟨some 61, _, _, _, _, _⟩) (v := undef) rfl (by kernel_rfl) (by kernel_rfl) (by kernel_rfl) (fun _ _ _ h => h) (Or.inr ⟨by rfl, rfl⟩) (by assumption) ?_
      try simp only [Act.put, List.setIfInBounds_toArray, List.set_cons_zero, List.set_cons_succ]
      refine wpAnyH_take (i := 24) (oi := ⟨some 62, _, _, _, _, _⟩) (v := undef) rfl (by kernel_rfl) (by kernel_rfl) (by kernel_rfl) (fun _ _ _ h => h) (Or.inr ⟨by rfl, rfl⟩) (by assumption) ?_
      try simp only [Act.put, List.setIfInBounds_toArray, List.set_cons_zero, List.set_cons_succ]
      refine wpAnyH_take (i := 25) (oi := ⟨some 63, _, _, _, _, _⟩) (v := undef) rfl (by kernel_rfl) (by kernel_rfl) (by kernel_rfl) (fun _ _ _ h => h) (Or.inr ⟨by rfl, rfl⟩) (by assumption) ?_
      try simp only [Act.put, List.setIfInBounds_toArray, List.set_cons_zero, List.set_cons_succ]
      refine wpAnyH_take (i := 26) (oi := ⟨some 64, _, _, _, _, _⟩) (v := undef) rfl (by kernel_rfl) (by kernel_rfl) (by kernel_rfl) (fun _ _ _ h => h) (Or.inr ⟨by rfl, rfl⟩) (by assumption) ?_
      try simp only [Act.put, List.setIfInBounds_toArray, List.set_cons_zero, List.set_cons_succ]
      refine wpAnyH_take (i := 27) (oi := ⟨some 65, _, _, _, _, _⟩) (v := undef) rfl (by kernel_rfl) (by kernel_rfl) (by kernel_rfl) (fun _ _ _ h => h) (Or.inr ⟨by rfl, rfl⟩) (by assumption) ?_
      try simp only [Act.put, List.setIfInBounds_toArray, List.set_cons_zero, List.set_cons_succ]
      refine wpAnyH_take (i := 28) (oi := ⟨some 66, _, _, _, _, _⟩) (v := undef) rfl (by kernel_rfl) (by kernel_rfl) (by kernel_rfl) (fun _ _ _ h => h) (Or.inr ⟨by rfl, rfl⟩) (by assumption) ?_
      try simp only [Act.put, List.setIfInBounds_toArray, List.set_cons_zero, List.set_cons_succ]
      refine wpAnyH_take (i := 29) (oi := ⟨some 67, _, _, _, _, _⟩) (v := ?_) rfl (by kernel_rfl) (by kernel_rfl) (by kernel_rfl) (fun _ _ _ h => h) (Or.inl ⟨by rfl, ?_⟩) (by assumption) ?_
      rotate_left
      · (intro w' hSw; (try dsimp only at hSw); go_simp; try with_reducible rfl)
      try simp only [Act.put, List.setIfInBounds_toArray, List.set_cons_zero, List.set_cons_succ]
      refine wpAnyH_done (by kernel_rfl) ?_ _
      go_wp2
      go_ret
      exact ⟨ret_int HE.out.symm, HB3.out.drew⟩
    · have y1 : decide (rr < 0) = false := decide_eq_false h1
      have y2 : decide (1000 < rr) = false := decide_eq_false h2
      have y3 : decide (rs < 0) = false := decide_eq_false h3
      have y4 : decide (cn < rs) = true := decide_eq_true h4
      go_enter Tryz.func31, Tryz.ntmps31
      go_wp2_with (first
        | (go_at_call 52; have hh := HB2.out; clear hh; refine (KT.out _ HB2.out).mono ?_; rintro e w3 ⟨rfl, hb3⟩; have HB3 := Lib.hid ((HB2.out.trans (hb3.mono (Below.size HB2.out))).alloc (Nat.le_trans (Below.size HB2.out) hb3.size) (.cells #[.int .i64 0, .int .i64 0] 27)); have HI3 := Lib.hid (HI2.out.up (hb3.alloc hb3.size (.cells #[.int .i64 0, .int .i64 0] 27))); have HK3 := Lib.hid ((HK2.out.below hb3 HK2.out.lt).alloc (.cells #[.int .i64 0, .int .i64 0] 27)); clear hb3 d1)
        | (go_at_call 16; have hh := HB1.out; clear hh; refine (KF.out _ HB1.out).mono ?_; rintro e w2 ⟨rfl, hb2⟩; have HB2 := Lib.hid ((HB1.out.trans (hb2.mono (Below.size HB1.out))).alloc (Nat.le_trans (Below.size HB1.out) hb2.size) (.cells #[.int .i64 0, .int .i64 f2] 27)); have HI2 := Lib.hid (HI1.out.up (hb2.alloc hb2.size (.cells #[.int .i64 0, .int .i64 f2] 27))); have HK2 := Lib.hid ((HK1.out.below hb2 HK1.out.lt).alloc (.cells #[.int .i64 0, .int .i64 f2] 27)); have d1 := HK2.out.cell 1; simp only [List.getElem?_toArray, List.getElem?_cons_zero, List.getElem?_cons_succ] at d1; clear hb2 c0)
        | (go_at_call 20; refine (KS.out).mono ?_; rintro e w1 ⟨hb1, a1, c1, rfl, hr1⟩; have HB1 := Lib.hid ((HB0.out.trans (hb1.mono (Below.size HB0.out))).alloc (Nat.le_trans (Below.size HB0.out) hb1.size) (.cells #[.int .i64 0, .int .i64 q2] 27)); have HI1 := Lib.hid (hr1.up ((Below.refl _ _).alloc (Nat.le_refl _) (.cells #[.int .i64 0, .int .i64 q2] 27))); have HK1 := Lib.hid ((HK0.out.below hb1 HK0.out.lt).alloc (.cells #[.int .i64 0, .int .i64 q2] 27)); have c0 := HK1.out.cell 0; simp only [List.getElem?_toArray, List.getElem?_cons_zero] at c0; clear hb1 hr1))
      generalize hw3 : w3.alloc (.cells #[.int .i64 0, .int .i64 0] 27) = w4 at *
      clear hw3
      have HID := Lib.hid (show RdInts (fun _ => True) w4.drew (.slice a1 st.length c1) st from HI3.out.agree RInt.steady (Agree.drew (Agree.refl _ _)))
      have HKD := Lib.hid HK3.out.drew
      have k2 := HKD.out.cell 2; have k3 := HKD.out.cell 3; have k4 := HKD.out.cell 4
      simp only [List.getElem?_toArray, List.getElem?_cons_zero, List.getElem?_cons_succ] at k2 k3 k4
      refine wp_region_held_drew (S := (fun w' => w'.cell? ⟨w.heap.size, 2, none⟩ = some (.int .i64 rs) ∧ w'.cell? ⟨w.heap.size, 3, none⟩ = some (.int .i64 rr) ∧ w'.cell? ⟨w.heap.size, 4, none⟩ = some (.bool rd))) (by kernel_rfl) ?_ (fun hHeld => ?_)
      · exact ⟨k2, k3, k4⟩
      refine wpAnyH_take (i := 0) (oi := ⟨some 38, _, _, _, _, _⟩) (v := ?_) rfl (by kernel_rfl) (by kernel_rfl) (by kernel_rfl) (fun _ _ _ h => h) (Or.inl ⟨by rfl, ?_⟩) (by assumption) ?_
      rotate_left
      · (intro w' hSw; (try dsimp only at hSw); go_simp; try with_reducible rfl)
      try simp only [Act.put, List.setIfInBounds_toArray, List.set_cons_zero, List.set_cons_succ]
      refine wpAnyH_take (i := 1) (oi := ⟨some 39, _, _, _, _, _⟩) (v := ?_) rfl (by kernel_rfl) (by kernel_rfl) (by kernel_rfl) (fun _ _ _ h => h) (Or.inl ⟨by rfl, ?_⟩) (by assumption) ?_
      rotate_left
      · (intro w' hSw; (try dsimp only at hSw); go_simp; try with_reducible rfl)
      try simp only [Act.put, List.setIfInBounds_toArray, List.set_cons_zero, List.set_cons_succ]
      refine wpAnyH_take (i := 2) (oi := ⟨some 40, _, _, _, _, _⟩) (v := ?_) rfl (by kernel_rfl) (by kernel_rfl) (by kernel_rfl) (fun _ _ _ h => h) (Or.inl ⟨by rfl, ?_⟩) (by assumption) ?_
      rotate_left
      · (intro w' hSw; (try dsimp only at hSw); go_simp; try with_reducible rfl)
      try simp only [Act.put, List.setIfInBounds_toArray, List.set_cons_zero, List.set_cons_succ]
      refine wpAnyH_take (i := 3) (oi := ⟨some 41, _, _, _, _, _⟩) (v := ?_) rfl (by kernel_rfl) (by kernel_rfl) (by kernel_rfl) (fun _ _ _ h => h) (Or.inl ⟨by rfl, ?_⟩) (by assumption) ?_
      rotate_left
      · (intro w' hSw; (try dsimp only at hSw); go_simp; try with_reducible rfl)
      try simp only [Act.put, List.setIfInBounds_toArray, List.set_cons_zero, List.set_cons_succ]
      refine wpAnyH_take (i := 4) (oi := ⟨some 42, _, _, _, _, _⟩) (v := ?_) rfl (by kernel_rfl) (by kernel_rfl) (by kernel_rfl) (fun _ _ _ h => h) (Or.inl ⟨by rfl, ?_⟩) (by assumption) ?_
      rotate_left
      · (intro w' hSw; (try dsimp only at hSw); go_simp; try with_reducible rfl)
      try simp only [Act.put, List.setIfInBounds_toArray, List.set_cons_zero, List.set_cons_succ]
      refine wpAnyH_take (i := 5) (oi := ⟨some 43, _, _, _, _, _⟩) (v := ?_) rfl (by kernel_rfl) (by kernel_rfl) (by kernel_rfl) (fun _ _ _ h => h) (Or.inl ⟨by rfl, ?_⟩) (by assumption) ?_
      rotate_left
      · (intro w' hSw; (try dsimp only at hSw); go_simp; try with_reducible rfl)
      try simp only [Act.put, List.setIfInBounds_toArray, List.set_cons_zero, List.set_cons_succ]
      refine wpAnyH_take (i := 6) (oi := ⟨some 44, _, _, _, _, _⟩) (v := ?_) rfl (by kernel_rfl) (by kernel_rfl) (by kernel_rfl) (fun _ _ _ h => h) (Or.inl ⟨by rfl, ?_⟩) (by assumption) ?_
      rotate_left
      · (intro w' hSw; (try dsimp only at hSw); go_simp; try with_reducible rfl)
      try simp only [Act.put, List.setIfInBounds_toArray, List.set_cons_zero, List.set_cons_succ]
      refine wpAnyH_take (i := 7) (oi := ⟨some 45, _, _, _, _, _⟩) (v := ?_) rfl (by kernel_rfl) (by kernel_rfl) (by kernel_rfl) (fun _ _ _ h => h) (Or.inl ⟨by rfl, ?_⟩) (by assumption) ?_
      rotate_left
      · (intro w' hSw; (try dsimp only at hSw); go_simp; try with_reducible rfl)
      try simp only [Act.put, List.setIfInBounds_toArray, List.set_cons_zero, List.set_cons_succ]
      refine wpAnyH_take (i := 8) (oi := ⟨some 46, _, _, _, _, _⟩) (v := ?_) rfl (by kernel_rfl) (by kernel_rfl) (by kernel_rfl) (fun _ _ _ h => h) (Or.inl ⟨by rfl, ?_⟩) (by assumption) ?_
      rotate_left
      · (intro w' hSw; (try dsimp only at hSw); go_simp; try with_reducible rfl)
      try simp only [Act.put, List.setIfInBounds_toArray, List.set_cons_zero, List.set_cons_succ]
      refine wpAnyH_take (i := 9) (oi := ⟨some 47, _, _, _, _, _⟩) (v := ?_) rfl (by kernel_rfl) (by kernel_rfl) (by kernel_rfl) (fun _ _ _ h => h) (Or.inl ⟨by rfl, ?_⟩) (by assumption) ?_
      rotate_left
      · (intro w' hSw; (try dsimp only at hSw); go_simp; try with_reducible rfl)
      try simp only [Act.put, List.setIfInBounds_toArray, List.set_cons_zero, List.set_cons_succ]
      refine wpAnyH_take (i := 10) (oi := ⟨some 48, _, _, _, _, _⟩) (v := ?_) rfl (by kernel_rfl) (by kernel_rfl) (by kernel_rfl) (fun _ _ _ h => h) (Or.inl ⟨by rfl, ?_⟩) (by assumption) ?_
      rotate_left
      · (intro w' hSw; (try dsimp only at hSw); go_simp; try with_reducible rfl)
      try simp only [Act.put, List.setIfInBounds_toArray, List.set_cons_zero, List.set_cons_succ]
      refine wpAnyH_take (i := 11) (oi := ⟨some 49, _, _, _, _, _⟩) (v := ?_) rfl (by kernel_rfl) (by kernel_rfl) (by kernel_rfl) (fun _ _ _ h => h) (Or.inl ⟨by rfl, ?_⟩) (by assumption) ?_
      rotate_left
      · (intro w' hSw; (try dsimp only at hSw); go_simp; try with_reducible rfl)
      try simp only [Act.put, List.setIfInBounds_toArray, List.set_cons_zero, List.set_cons_succ]
      refine wpAnyH_take (i := 12) (oi := ⟨some 50, _, _, _, _, _⟩) (v := ?_) rfl (by kernel_rfl) (by kernel_rfl) (by kernel_rfl) (fun _ _ _ h => h) (Or.inl ⟨by rfl, ?_⟩) (by assumption) ?_
      rotate_left
      · (intro w' hSw; (try dsimp only at hSw); go_simp; try with_reducible rfl)
      try simp only [Act.put, List.setIfInBounds_toArray, List.set_cons_zero, List.set_cons_succ]
      refine wpAnyH_take (i := 13) (oi := ⟨some 51, _, _, _, _, _⟩) (v := ?_) rfl (by kernel_rfl) (by kernel_rfl) (by kernel_rfl) (fun _ _ _ h => h) (Or.inl ⟨by rfl, ?_⟩) (by assumption) ?_
      rotate_left
      · (intro w' hSw; (try dsimp only at hSw); go_simp; try with_reducible rfl)
      try simp only [Act.put, List.setIfInBounds_toArray, List.set_cons_zero, List.set_cons_succ]
      refine wpAnyH_take (i := 14) (oi := ⟨some 52, _, _, _, _, _⟩) (v := ?_) rfl (by kernel_rfl) (by kernel_rfl) (by kernel_rfl) (fun _ _ _ h => h) (Or.inl ⟨by rfl, ?_⟩) (by assumption) ?_
      rotate_left
      · (intro w' hSw; (try dsimp only at hSw); go_simp; try with_reducible rfl)
      try simp only [Act.put, List.setIfInBounds_toArray, List.set_cons_zero, List.set_cons_succ]
      refine wpAnyH_take (i := 15) (oi := ⟨some 53, _, _, _, _, _⟩) (v := ?_) rfl (by kernel_rfl) (by kernel_rfl) (by kernel_rfl) (fun _ _ _ h => h) (Or.inl ⟨by rfl, ?_⟩) (by assumption) ?_
      rotate_left
      · (intro w' hSw; (try dsimp only at hSw); go_simp; try with_reducible rfl)
      try simp only [Act.put, List.setIfInBounds_toArray, List.set_cons_zero, List.set_cons_succ]
      refine wpAnyH_take (i := 16) (oi := ⟨some 54, _, _, _, _, _⟩) (v := ?_) rfl (by kernel_rfl) (by kernel_rfl) (by kernel_rfl) (fun _ _ _ h => h) (Or.inl ⟨by rfl, ?_⟩) (by assumption) ?_
      rotate_left
      · (intro w' hSw; (try dsimp only at hSw); go_simp; try with_reducible rfl)
      try simp only [Act.put, List.setIfInBounds_toArray, List.set_cons_zero, List.set_cons_succ]
      refine wpAnyH_ready (rs := [17]) (by kernel_rfl) (by simp) ?_
      refine AllReadyH.cons (o := ⟨some 55, _, _, _, _, _⟩) rfl (fun K hK => ?_) AllReadyH.nil
      go_simp
      (go_at_call 22; refine (KC.out _ _ HID.out).mono ?_; rintro e w5 ⟨rfl, rfl⟩)
      refine hK.out _ _ ?_ (fun hHeld => ?_)
      · exact ⟨k2, k3, k4⟩
      clear hK K
      try simp only [Act.put, List.setIfInBounds_toArray, List.set_cons_zero, List.set_cons_succ]
      refine wpAnyH_take (i := 18) (oi := ⟨some 56, _, _, _, _, _⟩) (v := ?_) rfl (by kernel_rfl) (by kernel_rfl) (by kernel_rfl) (fun _ _ _ h => h) (Or.inl ⟨by rfl, ?_⟩) (by assumption) ?_
      rotate_left
      · (intro w' hSw; (try dsimp only at hSw); go_simp; try with_reducible rfl)
      try simp only [Act.put, List.setIfInBounds_toArray, List.set_cons_zero, List.set_cons_succ]
      refine wpAnyH_take (i := 19) (oi := ⟨some 57, _, _, _, _, _⟩) (v := ?_) rfl (by kernel_rfl) (by kernel_rfl) (by kernel_rfl) (fun _ _ _ h => h) (Or.inl ⟨by rfl, ?_⟩) (by assumption) ?_
      rotate_left
      · (intro w' hSw; (try dsimp only at hSw); go_simp; try with_reducible rfl)
      try simp only [Act.put, List.setIfInBounds_toArray, List.set_cons_zero, List.set_cons_succ]
      refine wpAnyH_take (i := 20) (oi := ⟨some 58, _, _, _, _, _⟩) (v := ?_) rfl (by kernel_rfl) (by kernel_rfl) (by kernel_rfl) (fun _ _ _ h => h) (Or.inl ⟨by rfl, ?_⟩) (by assumption) ?_
      rotate_left
      · (intro w' hSw; (try dsimp only at hSw); go_simp; try with_reducible rfl)
      try simp only [Act.put, List.setIfInBounds_toArray, List.set_cons_zero, List.set_cons_succ]
      refine wpAnyH_take (i := 21) (oi := ⟨some 59, _, _, _, _, _⟩) (v := undef) rfl (by kernel_rfl) (by kernel_rfl) (by kernel_rfl) (fun _ _ _ h => h) (Or.inr ⟨by rfl, rfl⟩) (by assumption) ?_
      try simp only [Act.put, List.setIfInBounds_toArray, List.set_cons_zero, List.set_cons_succ]
      refine wpAnyH_take (i := 22) (oi := ⟨some 60, _, _, _, _, _⟩) (v := undef) rfl (by kernel_rfl) (by kernel_rfl) (by kernel_rfl) (fun _ _ _ h => h) (Or.inr ⟨by rfl, rfl⟩) (by assumption) ?_
      try simp only [Act.put, List.setIfInBounds_toArray, List.set_cons_zero, List.set_cons_succ]
      refine wpAnyH_take (i := 23) (oi := ⟨some 61, _, _, _, _, _⟩) (v := undef) rfl (by kernel_rfl) (by kernel_rfl) (by kernel_rfl) (fun _ _ _ h => h) (Or.inr ⟨by rfl, rfl⟩) (by assumption) ?_
      try simp only [Act.put, List.setIfInBounds_toArray, List.set_cons_zero, List.set_cons_succ]
      refine wpAnyH_take (i := 24) (oi := ⟨some 62, _, _, _, _, _⟩) (v := undef) rfl (by kernel_rfl) (by kernel_rfl) (by kernel_rfl) (fun _ _ _ h => h) (Or.inr ⟨by rfl, rfl⟩) (by assumption) ?_
      try simp only [Act.put, List.setIfInBounds_toArray, List.set_cons_zero, List.set_cons_succ]
      refine wpAnyH_take (i := 25) (oi := ⟨some 63, _, _, _, _, _⟩) (v := undef) rfl (by kernel_rfl) (by kernel_rfl) (by kernel_rfl) (fun _ _ _ h => h) (Or.inr ⟨by rfl, rfl⟩) (by assumption) ?_
      try simp only [Act.put, List.setIfInBounds_toArray, List.set_cons_zero, List.set_cons_succ]
      refine wpAnyH_take (i := 26) (oi := ⟨some 64, _, _, _, _, _⟩) (v := undef) rfl (by kernel_rfl) (by kernel_rfl) (by kernel_rfl) (fun _ _ _ h => h) (Or.inr ⟨by rfl, rfl⟩) (by assumption) ?_
      try simp only [Act.put, List.setIfInBounds_toArray, List.set_cons_zero, List.set_cons_succ]
      refine wpAnyH_take (i := 27) (oi := ⟨some 65, _, _, _, _, _⟩) (v := undef) rfl (by kernel_rfl) (by kernel_rfl) (by kernel_rfl) (fun _ _ _ h => h) (Or.inr ⟨by rfl, rfl⟩) (by assumption) ?_
      try simp only [Act.put, List.setIfInBounds_toArray, List.set_cons_zero, List.set_cons_succ]
      refine wpAnyH_take (i := 28) (oi := ⟨some 66, _, _, _, _, _⟩) (v := undef) rfl (by kernel_rfl) (by kernel_rfl) (by kernel_rfl) (fun _ _ _ h => h) (Or.inr ⟨by rfl, rfl⟩) (by assumption) ?_
      try simp only [Act.put, List.setIfInBounds_toArray, List.set_cons_zero, List.set_cons_succ]
      refine wpAnyH_take (i := 29) (oi := ⟨some 67, _, _, _, _, _⟩) (v := ?_) rfl (by kernel_rfl) (by kernel_rfl) (by kernel_rfl) (fun _ _ _ h => h) (Or.inl ⟨by rfl, ?_⟩) (by assumption) ?_
      rotate_left
      · (intro w' hSw; (try dsimp only at hSw); go_simp; try with_reducible rfl)
      try simp only [Act.put, List.setIfInBounds_toArray, List.set_cons_zero, List.set_cons_succ]
      refine wpAnyH_done (by kernel_rfl) ?_ _
      go_wp2
      go_ret
      exact ⟨ret_int HE.out.symm, HB3.out.drew⟩
    · have y1 : decide (rr < 0) = false := decide_eq_false h1
      have y2 : decide (1000 < rr) = false := decide_eq_false h2
      have y3 : decide (cn < 0) = false := decide_eq_false h3
      have y4 : decide (cn < cn) = false := decide_eq_false h4
      go_enter Tryz.func31, Tryz.ntmps31
      go_wp2_with (first
        | (go_at_call 52; have hh := HB2.out; clear hh; refine (KT.out _ HB2.out).mono ?_; rintro e w3 ⟨rfl, hb3⟩; have HB3 := Lib.hid ((HB2.out.trans (hb3.mono (Below.size HB2.out))).alloc (Nat.le_trans (Below.size HB2.out) hb3.size) (.cells #[.int .i64 0, .int .i64 0] 27)); have HI3 := Lib.hid (HI2.out.up (hb3.alloc hb3.size (.cells #[.int .i64 0, .int .i64 0] 27))); have HK3 := Lib.hid ((HK2.out.below hb3 HK2.out.lt).alloc (.cells #[.int .i64 0, .int .i64 0] 27)); clear hb3 d1)
        | (go_at_call 16; have hh := HB1.out; clear hh; refine (KF.out _ HB1.out).mono ?_; rintro e w2 ⟨rfl, hb2⟩; have HB2 := Lib.hid ((HB1.out.trans (hb2.mono (Below.size HB1.out))).alloc (Nat.le_trans (Below.size HB1.out) hb2.size) (.cells #[.int .i64 0, .int .i64 f2] 27)); have HI2 := Lib.hid (HI1.out.up (hb2.alloc hb2.size (.cells #[.int .i64 0, .int .i64 f2] 27))); have HK2 := Lib.hid ((HK1.out.below hb2 HK1.out.lt).alloc (.cells #[.int .i64 0, .int .i64 f2] 27)); have d1 := HK2.out.cell 1; simp only [List.getElem?_toArray, List.getElem?_cons_zero, List.getElem?_cons_succ] at d1; clear hb2 c0)
        | (go_at_call 20; refine (KS.out).mono ?_; rintro e w1 ⟨hb1, a1, c1, rfl, hr1⟩; have HB1 := Lib.hid ((HB0.out.trans (hb1.mono (Below.size HB0.out))).alloc (Nat.le_trans (Below.size HB0.out) hb1.size) (.cells #[.int .i64 0, .int .i64 q2] 27)); have HI1 := Lib.hid (hr1.up ((Below.refl _ _).alloc (Nat.le_refl _) (.cells #[.int .i64 0, .int .i64 q2] 27))); have HK1 := Lib.hid ((HK0.out.below hb1 HK0.out.lt).alloc (.cells #[.int .i64 0, .int .i64 q2] 27)); have c0 := HK1.out.cell 0; simp only [List.getElem?_toArray, List.getElem?_cons_zero] at c0; clear hb1 hr1))
      generalize hw3 : w3.alloc (.cells #[.int .i64 0, .int .i64 0] 27) = w4 at *
      clear hw3
      have HID := Lib.hid (show RdInts (fun _ => True) w4.drew (.slice a1 st.length c1) st from HI3.out.agree RInt.steady (Agree.drew (Agree.refl _ _)))
      have HKD := Lib.hid HK3.out.drew
      have k2 := HKD.out.cell 2; have k3 := HKD.out.cell 3; have k4 := HKD.out.cell 4
      simp only [List.getElem?_toArray, List.getElem?_cons_zero, List.getElem?_cons_succ] at k2 k3 k4
      go_region_held3 (fun w' => w'.cell? ⟨w.heap.size, 2, none⟩ = some (.int .i64 cn) ∧ w'.cell? ⟨w.heap.size, 3, none⟩ = some (.int .i64 rr) ∧ w'.cell? ⟨w.heap.size, 4, none⟩ = some (.bool false))
        (first | (with_reducible exact ⟨k2, k3, k4⟩) | go_keep)
        (first
          | (go_at_call 22; refine (KC.out _ _ HID.out).mono ?_; rintro e w5 ⟨rfl, rfl⟩))
      all_goals
        go_wp2
        go_ret
        exact ⟨ret_int HE.out.symm, HB3.out.drew⟩
    · have y1 : decide (rr < 0) = false := decide_eq_false h1
      have y2 : decide (1000 < rr) = false := decide_eq_false h2
      have y3 : decide (rs < 0) = false := decide_eq_false h3
      have y4 : decide (cn < rs) = false := decide_eq_false h4
      go_enter Tryz.func31, Tryz.ntmps31
      go_wp2_with (first
        | (go_at_call 52; have hh := HB2.out; clear hh; refine (KT.out _ HB2.out).mono ?_; rintro e w3 ⟨rfl, hb3⟩; have HB3 := Lib.hid ((HB2.out.trans (hb3.mono (Below.size HB2.out))).alloc (Nat.le_trans (Below.size HB2.out) hb3.size) (.cells #[.int .i64 0, .int .i64 0] 27)); have HI3 := Lib.hid (HI2.out.up (hb3.alloc hb3.size (.cells #[.int .i64 0, .int .i64 0] 27))); have HK3 := Lib.hid ((HK2.out.below hb3 HK2.out.lt).alloc (.cells #[.int .i64 0, .int .i64 0] 27)); clear hb3 d1)
        | (go_at_call 16; have hh := HB1.out; clear hh; refine (KF.out _ HB1.out).mono ?_; rintro e w2 ⟨rfl, hb2⟩; have HB2 := Lib.hid ((HB1.out.trans (hb2.mono (Below.size HB1.out))).alloc (Nat.le_trans (Below.size HB1.out) hb2.size) (.cells #[.int .i64 0, .int .i64 f2] 27)); have HI2 := Lib.hid (HI1.out.up (hb2.alloc hb2.size (.cells #[.int .i64 0, .int .i64 f2] 27))); have HK2 := Lib.hid ((HK1.out.below hb2 HK1.out.lt).alloc (.cells #[.int .i64 0, .int .i64 f2] 27)); have d1 := HK2.out.cell 1; simp only [List.getElem?_toArray, List.getElem?_cons_zero, List.getElem?_cons_succ] at d1; clear hb2 c0)
        | (go_at_call 20; refine (KS.out).mono ?_; rintro e w1 ⟨hb1, a1, c1, rfl, hr1⟩; have HB1 := Lib.hid ((HB0.out.trans (hb1.mono (Below.size HB0.out))).alloc (Nat.le_trans (Below.size HB0.out) hb1.size) (.cells #[.int .i64 0, .int .i64 q2] 27)); have HI1 := Lib.hid (hr1.up ((Below.refl _ _).alloc (Nat.le_refl _) (.cells #[.int .i64 0, .int .i64 q2] 27))); have HK1 := Lib.hid ((HK0.out.below hb1 HK0.out.lt).alloc (.cells #[.int .i64 0, .int .i64 q2] 27)); have c0 := HK1.out.cell 0; simp only [List.getElem?_toArray, List.getElem?_cons_zero] at c0; clear hb1 hr1))
      generalize hw3 : w3.alloc (.cells #[.int .i64 0, .int .i64 0] 27) = w4 at *
      clear hw3
      have HID := Lib.hid (show RdInts (fun _ => True) w4.drew (.slice a1 st.length c1) st from HI3.out.agree RInt.steady (Agree.drew (Agree.refl _ _)))
      have HKD := Lib.hid HK3.out.drew
      have k2 := HKD.out.cell 2; have k3 := HKD.out.cell 3; have k4 := HKD.out.cell 4
      simp only [List.getElem?_toArray, List.getElem?_cons_zero, List.getElem?_cons_succ] at k2 k3 k4
      go_region_held3 (fun w' => w'.cell? ⟨w.heap.size, 2, none⟩ = some (.int .i64 rs) ∧ w'.cell? ⟨w.heap.size, 3, none⟩ = some (.int .i64 rr) ∧ w'.cell? ⟨w.heap.size, 4, none⟩ = some (.bool true))
        (first | (with_reducible exact ⟨k2, k3, k4⟩) | go_keep)
        (first
          | (go_at_call 22; refine (KC.out _ _ HID.out).mono ?_; rintro e w5 ⟨rfl, rfl⟩))
      all_goals
        go_wp2
        go_ret
        exact ⟨ret_int HE.out.symm, HB3.out.drew⟩
  · rw [hx, if_neg (by simp)] at HE
    clear hx
    rcases hc with ⟨rfl, rfl⟩ | ⟨h5, rfl⟩
    · have y1 : decide (rr < 0) = false := decide_eq_false h1
      have y2 : decide (1000 < rr) = false := decide_eq_false h2
      have y3 : decide (cn < 0) = false := decide_eq_false h3
      have y4 : decide (cn < cn) = false := decide_eq_false h4
      go_enter Tryz.func31, Tryz.ntmps31
      go_wp2_with (first
        | (go_at_call 52; have hh := HB2.out; clear hh; refine (KT.out _ HB2.out).mono ?_; rintro e w3 ⟨rfl, hb3⟩; have HB3 := Lib.hid ((HB2.out.trans (hb3.mono (Below.size HB2.out))).alloc (Nat.le_trans (Below.size HB2.out) hb3.size) (.cells #[.int .i64 0, .int .i64 0] 27)); have HI3 := Lib.hid (HI2.out.up (hb3.alloc hb3.size (.cells #[.int .i64 0, .int .i64 0] 27))); have HK3 := Lib.hid ((HK2.out.below hb3 HK2.out.lt).alloc (.cells #[.int .i64 0, .int .i64 0] 27)); clear hb3 d1)
        | (go_at_call 16; have hh := HB1.out; clear hh; refine (KF.out _ HB1.out).mono ?_; rintro e w2 ⟨rfl, hb2⟩; have HB2 := Lib.hid ((HB1.out.trans (hb2.mono (Below.size HB1.out))).alloc (Nat.le_trans (Below.size HB1.out) hb2.size) (.cells #[.int .i64 0, .int .i64 f2] 27)); have HI2 := Lib.hid (HI1.out.up (hb2.alloc hb2.size (.cells #[.int .i64 0, .int .i64 f2] 27))); have HK2 := Lib.hid ((HK1.out.below hb2 HK1.out.lt).alloc (.cells #[.int .i64 0, .int .i64 f2] 27)); have d1 := HK2.out.cell 1; simp only [List.getElem?_toArray, List.getElem?_cons_zero, List.getElem?_cons_succ] at d1; clear hb2 c0)
        | (go_at_call 20; refine (KS.out).mono ?_; rintro e w1 ⟨hb1, a1, c1, rfl, hr1⟩; have HB1 := Lib.hid ((HB0.out.trans (hb1.mono (Below.size HB0.out))).alloc (Nat.le_trans (Below.size HB0.out) hb1.size) (.cells #[.int .i64 0, .int .i64 q2] 27)); have HI1 := Lib.hid (hr1.up ((Below.refl _ _).alloc (Nat.le_refl _) (.cells #[.int .i64 0, .int .i64 q2] 27))); have HK1 := Lib.hid ((HK0.out.below hb1 HK0.out.lt).alloc (.cells #[.int .i64 0, .int .i64 q2] 27)); have c0 := HK1.out.cell 0; simp only [List.getElem?_toArray, List.getElem?_cons_zero] at c0; clear hb1 hr1))
      generalize hw3 : w3.alloc (.cells #[.int .i64 0, .int .i64 0] 27) = w4 at *
      clear hw3
      have HID := Lib.hid (show RdInts (fun _ => True) w4.drew (.slice a1 st.length c1) st from HI3.out.agree RInt.steady (Agree.drew (Agree.refl _ _)))
      have HKD := Lib.hid HK3.out.drew
      have k2 := HKD.out.cell 2; have k3 := HKD.out.cell 3; have k4 := HKD.out.cell 4
      simp only [List.getElem?_toArray, List.getElem?_cons_zero, List.getElem?_cons_succ] at k2 k3 k4
      go_region_held3 (fun w' => w'.cell? ⟨w.heap.size, 2, none⟩ = some (.int .i64 cn) ∧ w'.cell? ⟨w.heap.size, 3, none⟩ = some (.int .i64 rr) ∧ w'.cell? ⟨w.heap.size, 4, none⟩ = some (.bool true))
        (first | (with_reducible exact ⟨k2, k3, k4⟩) | go_keep)
        (first
          | (go_at_call 22; refine (KC.out _ _ HID.out).mono ?_; rintro e w5 ⟨rfl, rfl⟩))
      all_goals
        have HBD := Lib.hid HB3.out.drew
        have hrl : rn.length ≤ 1048576 := NS.out.n1
        generalize w4.drew = w5 at *
        have hk5 := HKD.out.lt
        have k0 := HKD.out.cell 0; have k1 := HKD.out.cell 1
        simp only [List.getElem?_toArray, List.getElem?_cons_zero, List.getElem?_cons_succ] at k0 k1
        have HR5 := Lib.hid (Below.refl w5.heap.size w5)
        have HA0 : Hid (∀ x ∈ rn.take 0, x ∈ rk) := Lib.hid (by simp)
        clear KC KF KT KS HB1 HB2 HB3 HK1 HK2 HK3 HI1 HI2 HI3 HID k2 k3 k4
        go_wp2
        clear k0 k1
        go_loopw [71] (fun i wx => ∃ (j : Nat), j ≤ rn.length ∧ i = .int .i64 j ∧ Hid (∀ x ∈ rn.take j, x ∈ rk) ∧ Hid (Below w5.heap.size w5 wx)) (fun i _ => rn.length - (intOf i).toNat)
        case atStart => exact ⟨0, Nat.zero_le _, rfl, HA0, HR5⟩
        case round =>
          clear HA0 HR5
          obtain ⟨j, hj, rfl, HA, HQ⟩ := hrel
          have HW := Lib.hid (HBD.out.trans (HQ.out.mono (Below.size HBD.out)))
          by_cases hlj : j < rn.length
          · obtain ⟨f, hy⟩ : ∃ y, rn[j]? = some y := ⟨_, List.getElem?_eq_getElem hlj⟩
            obtain ⟨b4, o4, av, rfl, -, hb4, e0, e1, hav⟩ := RdFacts.at (HR.out.new.up HW.out) hy
            obtain ⟨xa, xc, rfl, -, -, -⟩ := id hav.form
            have hfm := List.mem_of_getElem? hy
            have hfl := (M2.out f hfm).1
            have hk6 := HKD.out.below HQ.out hk5
            have m0 := hk6.cell 0
            simp only [List.getElem?_toArray, List.getElem?_cons_zero, List.getElem?_cons_succ] at m0
            have hlt6 := hk6.lt
            have HA1 := Lib.hid (show f ∈ rk → ∀ x ∈ rn.take (j + 1), x ∈ rk from fun h x hx => by
              rw [List.take_add_one, hy] at hx
              rcases List.mem_append.1 hx with hx | hx
              · exact HA.out x hx
              · obtain rfl : x = f := by simpa using hx
                exact h)
            have HQ6 := Lib.hid (HQ.out.alloc (Below.size HQ.out) (.cells #[.string f.name, .slice xa f.args.length xc] 61))
            have HW6 := Lib.hid (HW.out.alloc (Below.size HW.out) (.cells #[.string f.name, .slice xa f.args.length xc] 61))
            have KI := Lib.hid (KN.out _ HW6.out f (.slice xa f.args.length xc) (hav.agree RStr.steady ((Agree.refl _ _).alloc _)) (by omega))
            have HNO := Lib.hid (show f ∉ rk → lessF rn rk ≠ [] from fun h e => h (lessF_nil_iff.1 e f hfm))
            clear hy hav hfm hk6
            cases hm : memF f rk
            · have HE8 := Lib.hid (HE.out.trans (if_pos (HNO.out fun h => by rw [(memF_iff f rk).2 h] at hm; cases hm)))
              rw [hm] at KI
              clear hm HNO HA1
              go_wp2_with (go_at_call 62; refine (KI.out).mono ?_; rintro e w8 ⟨rfl, hf8⟩; have HW8 := Lib.hid (HW6.out.trans (hf8.below.mono (Below.size HW6.out))); clear hf8)
              go_ret
              exact ⟨ret_int HE8.out.symm, HW8.out⟩
            · have HA2 := Lib.hid (HA1.out ((memF_iff f rk).1 hm))
              rw [hm] at KI
              clear hm HNO HA1
              go_wp2_with (go_at_call 62; refine (KI.out).mono ?_; rintro e w8 ⟨rfl, hf8⟩; have HQ8 := Lib.hid (HQ6.out.trans (hf8.below.mono (Below.size HQ6.out))); clear hf8)
              go_roundw
              case rel => exact ⟨j + 1, by omega, by go_num, HA2, HQ8⟩
              case measure => simp [intOf]; omega
          · have HE0 := Lib.hid (HE.out.trans (if_neg (by
              have h := HA.out
              rw [List.take_of_length_le (by omega)] at h
              simpa using lessF_nil_iff.2 h)))
            go_wp2
            go_ret
            exact ⟨ret_int HE0.out.symm, HW.out⟩
    · have y1 : decide (rr < 0) = false := decide_eq_false h1
      have y2 : decide (1000 < rr) = false := decide_eq_false h2
      have y3 : decide (rs < 0) = false := decide_eq_false h3
      have y4 : decide (cn < rs) = false := decide_eq_false h4
      go_enter Tryz.func31, Tryz.ntmps31
      go_wp2_with (first
        | (go_at_call 52; have hh := HB2.out; clear hh; refine (KT.out _ HB2.out).mono ?_; rintro e w3 ⟨rfl, hb3⟩; have HB3 := Lib.hid ((HB2.out.trans (hb3.mono (Below.size HB2.out))).alloc (Nat.le_trans (Below.size HB2.out) hb3.size) (.cells #[.int .i64 0, .int .i64 0] 27)); have HI3 := Lib.hid (HI2.out.up (hb3.alloc hb3.size (.cells #[.int .i64 0, .int .i64 0] 27))); have HK3 := Lib.hid ((HK2.out.below hb3 HK2.out.lt).alloc (.cells #[.int .i64 0, .int .i64 0] 27)); clear hb3 d1)
        | (go_at_call 16; have hh := HB1.out; clear hh; refine (KF.out _ HB1.out).mono ?_; rintro e w2 ⟨rfl, hb2⟩; have HB2 := Lib.hid ((HB1.out.trans (hb2.mono (Below.size HB1.out))).alloc (Nat.le_trans (Below.size HB1.out) hb2.size) (.cells #[.int .i64 0, .int .i64 f2] 27)); have HI2 := Lib.hid (HI1.out.up (hb2.alloc hb2.size (.cells #[.int .i64 0, .int .i64 f2] 27))); have HK2 := Lib.hid ((HK1.out.below hb2 HK1.out.lt).alloc (.cells #[.int .i64 0, .int .i64 f2] 27)); have d1 := HK2.out.cell 1; simp only [List.getElem?_toArray, List.getElem?_cons_zero, List.getElem?_cons_succ] at d1; clear hb2 c0)
        | (go_at_call 20; refine (KS.out).mono ?_; rintro e w1 ⟨hb1, a1, c1, rfl, hr1⟩; have HB1 := Lib.hid ((HB0.out.trans (hb1.mono (Below.size HB0.out))).alloc (Nat.le_trans (Below.size HB0.out) hb1.size) (.cells #[.int .i64 0, .int .i64 q2] 27)); have HI1 := Lib.hid (hr1.up ((Below.refl _ _).alloc (Nat.le_refl _) (.cells #[.int .i64 0, .int .i64 q2] 27))); have HK1 := Lib.hid ((HK0.out.below hb1 HK0.out.lt).alloc (.cells #[.int .i64 0, .int .i64 q2] 27)); have c0 := HK1.out.cell 0; simp only [List.getElem?_toArray, List.getElem?_cons_zero] at c0; clear hb1 hr1))
      generalize hw3 : w3.alloc (.cells #[.int .i64 0, .int .i64 0] 27) = w4 at *
      clear hw3
      have HID := Lib.hid (show RdInts (fun _ => True) w4.drew (.slice a1 st.length c1) st from HI3.out.agree RInt.steady (Agree.drew (Agree.refl _ _)))
      have HKD := Lib.hid HK3.out.drew
      have k2 := HKD.out.cell 2; have k3 := HKD.out.cell 3; have k4 := HKD.out.cell 4
      simp only [List.getElem?_toArray, List.getElem?_cons_zero, List.getElem?_cons_succ] at k2 k3 k4
      go_region_held3 (fun w' => w'.cell? ⟨w.heap.size, 2, none⟩ = some (.int .i64 rs) ∧ w'.cell? ⟨w.heap.size, 3, none⟩ = some (.int .i64 rr) ∧ w'.cell? ⟨w.heap.size, 4, none⟩ = some (.bool false))
        (first | (with_reducible exact ⟨k2, k3, k4⟩) | go_keep)
        (first
          | (go_at_call 22; refine (KC.out _ _ HID.out).mono ?_; rintro e w5 ⟨rfl, rfl⟩))
      all_goals
        have HBD := Lib.hid HB3.out.drew
        have hrl : rn.length ≤ 1048576 := NS.out.n1
        generalize w4.drew = w5 at *
        have hk5 := HKD.out.lt
        have k0 := HKD.out.cell 0; have k1 := HKD.out.cell 1
        simp only [List.getElem?_toArray, List.getElem?_cons_zero, List.getElem?_cons_succ] at k0 k1
        have HR5 := Lib.hid (Below.refl w5.heap.size w5)
        have HA0 : Hid (∀ x ∈ rn.take 0, x ∈ rk) := Lib.hid (by simp)
        clear KC KF KT KS HB1 HB2 HB3 HK1 HK2 HK3 HI1 HI2 HI3 HID k2 k3 k4
        go_wp2
        clear k0 k1
        go_loopw [71] (fun i wx => ∃ (j : Nat), j ≤ rn.length ∧ i = .int .i64 j ∧ Hid (∀ x ∈ rn.take j, x ∈ rk) ∧ Hid (Below w5.heap.size w5 wx)) (fun i _ => rn.length - (intOf i).toNat)
        case atStart => exact ⟨0, Nat.zero_le _, rfl, HA0, HR5⟩
        case round =>
          clear HA0 HR5
          obtain ⟨j, hj, rfl, HA, HQ⟩ := hrel
          have HW := Lib.hid (HBD.out.trans (HQ.out.mono (Below.size HBD.out)))
          by_cases hlj : j < rn.length
          · obtain ⟨f, hy⟩ : ∃ y, rn[j]? = some y := ⟨_, List.getElem?_eq_getElem hlj⟩
            obtain ⟨b4, o4, av, rfl, -, hb4, e0, e1, hav⟩ := RdFacts.at (HR.out.new.up HW.out) hy
            obtain ⟨xa, xc, rfl, -, -, -⟩ := id hav.form
            have hfm := List.mem_of_getElem? hy
            have hfl := (M2.out f hfm).1
            have hk6 := HKD.out.below HQ.out hk5
            have m0 := hk6.cell 0
            simp only [List.getElem?_toArray, List.getElem?_cons_zero, List.getElem?_cons_succ] at m0
            have hlt6 := hk6.lt
            have HA1 := Lib.hid (show f ∈ rk → ∀ x ∈ rn.take (j + 1), x ∈ rk from fun h x hx => by
              rw [List.take_add_one, hy] at hx
              rcases List.mem_append.1 hx with hx | hx
              · exact HA.out x hx
              · obtain rfl : x = f := by simpa using hx
                exact h)
            have HQ6 := Lib.hid (HQ.out.alloc (Below.size HQ.out) (.cells #[.string f.name, .slice xa f.args.length xc] 61))
            have HW6 := Lib.hid (HW.out.alloc (Below.size HW.out) (.cells #[.string f.name, .slice xa f.args.length xc] 61))
            have KI := Lib.hid (KN.out _ HW6.out f (.slice xa f.args.length xc) (hav.agree RStr.steady ((Agree.refl _ _).alloc _)) (by omega))
            have HNO := Lib.hid (show f ∉ rk → lessF rn rk ≠ [] from fun h e => h (lessF_nil_iff.1 e f hfm))
            clear hy hav hfm hk6
            cases hm : memF f rk
            · have HE8 := Lib.hid (HE.out.trans (if_pos (HNO.out fun h => by rw [(memF_iff f rk).2 h] at hm; cases hm)))
              rw [hm] at KI
              clear hm HNO HA1
              go_wp2_with (go_at_call 62; refine (KI.out).mono ?_; rintro e w8 ⟨rfl, hf8⟩; have HW8 := Lib.hid (HW6.out.trans (hf8.below.mono (Below.size HW6.out))); clear hf8)
              go_ret
              exact ⟨ret_int HE8.out.symm, HW8.out⟩
            · have HA2 := Lib.hid (HA1.out ((memF_iff f rk).1 hm))
              rw [hm] at KI
              clear hm HNO HA1
              go_wp2_with (go_at_call 62; refine (KI.out).mono ?_; rintro e w8 ⟨rfl, hf8⟩; have HQ8 := Lib.hid (HQ6.out.trans (hf8.below.mono (Below.size HQ6.out))); clear hf8)
              go_roundw
              case rel => exact ⟨j + 1, by omega, by go_num, HA2, HQ8⟩
              case measure => simp [intOf]; omega
          · have HE0 := Lib.hid (HE.out.trans (if_neg (by
              have h := HA.out
              rw [List.take_of_length_le (by omega)] at h
              simpa using lessF_nil_iff.2 h)))
            go_wp2
            go_ret
            exact ⟨ret_int HE0.out.symm, HW.out⟩
end Go.Proofs.YtbbiapgkcekabaaGreat
