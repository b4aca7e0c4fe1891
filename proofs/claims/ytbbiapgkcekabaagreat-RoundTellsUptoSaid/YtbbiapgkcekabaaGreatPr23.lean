/-
  THE TEXTS RoundW2, RoundW5, RefSteps, OpenRun, RunK, RoundW6, one behind the other.
-/
import Derived.Test.YtbbiapgkcekabaaGreatPr11
import Derived.Test.YtbbiapgkcekabaaGreatPr12
import Derived.Test.YtbbiapgkcekabaaGreatPr17
import Derived.Test.YtbbiapgkcekabaaGreatPr20
import Derived.Test.YtbbiapgkcekabaaGreatPr22
/-
  THE WALK OF round.Begin.
-/
namespace Go.Proofs.YtbbiapgkcekabaaGreat
open Go.RowKit

set_option maxRecDepth 100000 in
set_option maxHeartbeats 8000000 in
theorem beginCalls {S S2 : Nat → Prop} (p : List PRule) (v fv : Value) (st : List Int) (q : Int × Int) (l : List PFact) (w : World) (hS : StrataIs p st q) (h : RdRules S w v p) (hf : RdFacts S2 w fv l)
    (n1 : p.length ≤ 1048576) (n2 : ∀ r ∈ p, RuleSmall r) (n3 : ∀ r ∈ p, NameSmall r) (n4 : l.length ≤ 1048576) (n5 : ∀ x ∈ l, x.args.length ≤ 1048576) :
    Calls Tryz.prog 27 #[v, fv] w (RunPost (beginP st q.1 p l) w) := by
  obtain ⟨a, c, rfl, -, -, -⟩ := id h.form
  obtain ⟨fa, fc, rfl, -, -, -⟩ := id hf.form
  obtain ⟨W0, hW0⟩ : ∃ W0 : World, w.alloc (.cells #[.slice none 0 0, .slice none 0 0, .int .i64 0, .int .i64 0, .bool false] 47) = W0 := ⟨_, rfl⟩
  have hb0 : Below w.heap.size w W0 := by subst hW0; exact (Below.refl _ _).alloc (Nat.le_refl _) _
  have hk0 : Blk W0 w.heap.size 47 #[.slice none 0 0, .slice none 0 0, .int .i64 0, .int .i64 0, .bool false] := by subst hW0; exact Blk.new w _ _
  have HB0 := Lib.hid hb0
  have HK0 := Lib.hid hk0
  have H := Lib.hid h
  have HFA := Lib.hid hf
  have N2 := Lib.hid n2
  have N3 := Lib.hid n3
  have N5 := Lib.hid n5
  have HS := Lib.hid hS
  have KS := Lib.hid (strataTold hS (h.up hb0) n1 n2 n3)
  clear h hf n2 n3 n5 hb0 hk0 hS
  obtain ⟨q1, q2⟩ := q
  dsimp only at *
  by_cases hq : q1 = 0
  case neg =>
    have g1 : (q1 != 0) = true := by simpa using hq
    have HE := Lib.hid (show beginP st q1 p l = (zeroRun, q1) by unfold beginP; rw [if_pos hq])
    clear hq
    go_enter Tryz.func27, Tryz.ntmps27
    go_wp2_with (go_at_call 53; refine (KS.out).mono ?_; rintro e w1 ⟨hb1, a1, c1, rfl, hr1⟩; have HB1 := Lib.hid (HB0.out.trans (hb1.mono (Below.size HB0.out))); have HK1 := Lib.hid (HK0.out.below hb1 HK0.out.lt); clear hb1 hr1)
    have hlt1 := HK1.out.lt
    have hne1 : w1.heap.size ≠ w.heap.size := by omega
    have hne2 : w.heap.size ≠ w1.heap.size := by omega
    have HF2 := Lib.hid (HK1.out.alloc (.cells #[.int .i64 q1, .int .i64 q2] 27))
    have HB2 := Lib.hid (HB1.out.alloc HB1.out.size (.cells #[.int .i64 q1, .int .i64 q2] 27))
    have HN2 := Lib.hid (Blk.new w1 27 #[.int .i64 q1, .int .i64 q2])
    generalize w1.alloc (.cells #[.int .i64 q1, .int .i64 q2] 27) = w2 at *
    have k0 := HN2.out.cell 0; have k1 := HN2.out.cell 1
    have c0 := HF2.out.cell 0; have c1 := HF2.out.cell 1; have c2 := HF2.out.cell 2; have c3 := HF2.out.cell 3; have c4 := HF2.out.cell 4
    have f0 := HF2.out.frozen 0; have f1 := HF2.out.frozen 1; have f2 := HF2.out.frozen 2; have f3 := HF2.out.frozen 3; have f4 := HF2.out.frozen 4
    simp only [List.getElem?_toArray, List.getElem?_cons_zero, List.getElem?_cons_succ] at c0 c1 c2 c3 c4 k0 k1
    go_region_held3 (fun w' => w'.cell? ⟨w1.heap.size, 0, none⟩ = some (.int .i64 q1)) (first | go_keep | (show _ = _; simp [hne1, hne2]; assumption)) (fail)
    go_wp2
    refine bodyPost_ret (v := .tuple #[.agg #[.slice none 0 0, .slice none 0 0, .int .i64 0, .int .i64 0, .bool false], .int .i64 q1]) (by simp [results, Tryz.results27, go_sem, c0, c1, c2, c3, c4]) rfl (run_ret_err HE.out ?_)
    exact (((((HB2.out.drew).setCell (Nat.le_refl _) _).setCell (Nat.le_refl _) _).setCell (Nat.le_refl _) _).setCell (Nat.le_refl _) _).setCell (Nat.le_refl _) _
  obtain ⟨hsl, h16, h5, hz16, -, -⟩ := strata_bd HS.out hq
  have HZ := Lib.hid hz16
  have H5 := Lib.hid h5
  have HSL := Lib.hid hsl
  clear h5 hz16 hsl
  subst hq
  have KF := Lib.hid (fun W (hW : Below w.heap.size w W) => factsCalls p (.slice a p.length c) (.slice fa l.length fc) l W (H.out.up hW) (HFA.out.up hW) h16 H5.out N2.out N3.out n4 N5.out)
  by_cases hf : (factsBad p l).1 = 0
  case neg =>
    have g2 : ((factsBad p l).1 != 0) = true := by simpa using hf
    have HE := Lib.hid (show beginP st 0 p l = (zeroRun, (factsBad p l).1) by unfold beginP; rw [if_neg (by simp), if_pos hf])
    clear hf
    generalize factsBad p l = f at *
    obtain ⟨q1, q2'⟩ := f
    dsimp only at *
    go_enter Tryz.func27, Tryz.ntmps27
    go_wp2_with (first
      | (go_at_call 15; have hh := HB1.out; clear hh; refine (KF.out _ HB1.out).mono ?_; rintro e w2 ⟨rfl, hb2⟩; have HB2 := Lib.hid (HB1.out.trans (hb2.mono (Below.size HB1.out))); have HK2 := Lib.hid (HK1.out.below hb2 HK1.out.lt); clear hb2)
      | (go_at_call 53; refine (KS.out).mono ?_; rintro e w1 ⟨hb1, a1, c1, rfl, hr1⟩; have HB1 := Lib.hid ((HB0.out.trans (hb1.mono (Below.size HB0.out))).alloc (Nat.le_trans (Below.size HB0.out) hb1.size) (.cells #[.int .i64 0, .int .i64 q2] 27)); have HK1 := Lib.hid ((HK0.out.below hb1 HK0.out.lt).alloc (.cells #[.int .i64 0, .int .i64 q2] 27)); clear hb1 hr1))
    have hlt1 := HK2.out.lt
    have hne1 : w2.heap.size ≠ w.heap.size := by omega
    have hne2 : w.heap.size ≠ w2.heap.size := by omega
    have HF3 := Lib.hid (HK2.out.alloc (.cells #[.int .i64 q1, .int .i64 q2'] 27))
    have HB3 := Lib.hid (HB2.out.alloc HB2.out.size (.cells #[.int .i64 q1, .int .i64 q2'] 27))
    have HN3 := Lib.hid (Blk.new w2 27 #[.int .i64 q1, .int .i64 q2'])
    generalize w2.alloc (.cells #[.int .i64 q1, .int .i64 q2'] 27) = w3 at *
    have k0 := HN3.out.cell 0; have k1 := HN3.out.cell 1
    have c0 := HF3.out.cell 0; have c1 := HF3.out.cell 1; have c2 := HF3.out.cell 2; have c3 := HF3.out.cell 3; have c4 := HF3.out.cell 4
    have f0 := HF3.out.frozen 0; have f1 := HF3.out.frozen 1; have f2 := HF3.out.frozen 2; have f3 := HF3.out.frozen 3; have f4 := HF3.out.frozen 4
    simp only [List.getElem?_toArray, List.getElem?_cons_zero, List.getElem?_cons_succ] at c0 c1 c2 c3 c4 k0 k1
    go_region_held3 (fun w' => w'.cell? ⟨w2.heap.size, 0, none⟩ = some (.int .i64 q1)) (first | go_keep | (show _ = _; simp [hne1, hne2]; assumption)) (fail)
    go_wp2
    refine bodyPost_ret (v := .tuple #[.agg #[.slice none 0 0, .slice none 0 0, .int .i64 0, .int .i64 0, .bool false], .int .i64 q1]) (by simp [results, Tryz.results27, go_sem, c0, c1, c2, c3, c4]) rfl (run_ret_err HE.out ?_)
    exact (((((HB3.out.drew).setCell (Nat.le_refl _) _).setCell (Nat.le_refl _) _).setCell (Nat.le_refl _) _).setCell (Nat.le_refl _) _).setCell (Nat.le_refl _) _
  have HE := Lib.hid (show beginP st 0 p l = (⟨l, l, 0, 0, countP st == 0⟩, 0) by unfold beginP; rw [if_neg (by simp), if_neg (by simpa using hf)])
  rw [hf] at KF
  generalize (factsBad p l).2 = f2 at *
  have KO := Lib.hid (fun W (hW : Below w.heap.size w W) => ownReads (HFA.out.up hW) n4 N5.out)
  have KC := Lib.hid (fun W sv (h1 : RdInts (fun _ => True) W sv st) => countCalls sv st W h1 (by rw [HSL.out]; omega) (fun z hz => by have := HZ.out z hz; omega))
  clear hf
  obtain ⟨dn, hdn⟩ : ∃ dn, (countP st == 0) = dn := ⟨_, rfl⟩
  rw [hdn] at HE
  generalize countP st = cn at *
  go_enter Tryz.func27, Tryz.ntmps27
  go_wp2_with (first
    | (go_at_call 21; have hh := HR4.out; clear hh; refine (KC.out _ _ HI4.out).mono ?_; rintro e w5 ⟨rfl, rfl⟩; have c0 := HK4.out.cell 0; have c1 := HK4.out.cell 1; have c2 := HK4.out.cell 2; have c3 := HK4.out.cell 3; have c4 := HK4.out.cell 4; have z0 := HK4.out.frozen 0; have z1 := HK4.out.frozen 1; have z2 := HK4.out.frozen 2; have z3 := HK4.out.frozen 3; have z4 := HK4.out.frozen 4; simp only [List.getElem?_toArray, List.getElem?_cons_zero, List.getElem?_cons_succ] at c0 c1 c2 c3 c4)
    | (go_at_call 54; have hh := HR3.out; clear hh; refine (KO.out _ HB3.out).mono ?_; rintro e w4 ⟨⟨a4, c4', rfl, hr4⟩, hb4⟩; have HB4 := Lib.hid (HB3.out.trans (hb4.mono (Below.size HB3.out))); have HK4 := Lib.hid (HK3.out.below hb4 HK3.out.lt); have HR4 := Lib.hid hr4; have HQ4 := Lib.hid (HR3.out.agree RFact.steady (Below.agree hb4)); have hs3 := HK3.out.lt; have hs2 := HK2.out.lt; have HI4 := Lib.hid (HI3.out.up hb4); clear hr4 hb4)
    | (go_at_call 54; have hh := HB2.out; clear hh; refine (KO.out _ HB2.out).mono ?_; rintro e w3 ⟨⟨a3, c3', rfl, hr3⟩, hb3⟩; have HB3 := Lib.hid (HB2.out.trans (hb3.mono (Below.size HB2.out))); have HK3 := Lib.hid (HK2.out.below hb3 HK2.out.lt); have HR3 := Lib.hid hr3; have HI3 := Lib.hid (HI2.out.up hb3); clear hr3 hb3)
    | (go_at_call 15; have hh := HB1.out; clear hh; refine (KF.out _ HB1.out).mono ?_; rintro e w2 ⟨rfl, hb2⟩; have HB2 := Lib.hid ((HB1.out.trans (hb2.mono (Below.size HB1.out))).alloc (Nat.le_trans (Below.size HB1.out) hb2.size) (.cells #[.int .i64 0, .int .i64 f2] 27)); have HK2 := Lib.hid ((HK1.out.below hb2 HK1.out.lt).alloc (.cells #[.int .i64 0, .int .i64 f2] 27)); have HI2 := Lib.hid (HI1.out.up (hb2.alloc hb2.size (.cells #[.int .i64 0, .int .i64 f2] 27))); clear hb2)
    | (go_at_call 53; refine (KS.out).mono ?_; rintro e w1 ⟨hb1, a1, c1, rfl, hr1⟩; have HB1 := Lib.hid ((HB0.out.trans (hb1.mono (Below.size HB0.out))).alloc (Nat.le_trans (Below.size HB0.out) hb1.size) (.cells #[.int .i64 0, .int .i64 q2] 27)); have HK1 := Lib.hid ((HK0.out.below hb1 HK0.out.lt).alloc (.cells #[.int .i64 0, .int .i64 q2] 27)); have HI1 := Lib.hid (hr1.up ((Below.refl _ _).alloc (Nat.le_refl _) (.cells #[.int .i64 0, .int .i64 q2] 27))); clear hb1 hr1))
  refine bodyPost_ret (v := .tuple #[.agg #[.slice a3 l.length c3', .slice a4 l.length c4', .int .i64 0, .int .i64 0, .bool dn], .int .i64 0]) (by simp [results, Tryz.results27, go_sem, c0, c1, c2, c3, c4]) rfl (run_ret_ok HE.out ?_ ?_ ?_)
  · exact ((((HB4.out.setCell (Nat.le_refl _) _).setCell (Nat.le_refl _) _).setCell (Nat.le_refl _) _).setCell (Nat.le_refl _) _).setCell (Nat.le_refl _) _
  · have hn : ¬ New (w2.alloc (.cells #[.int .i64 0, .int .i64 f2] 27)) w.heap.size := fun h => by have h' : (w2.alloc (.cells #[.int .i64 0, .int .i64 f2] 27)).heap.size ≤ w.heap.size := h; simp at h'; omega
    exact RdFacts.newer (RdFacts.set_far (RdFacts.set_far (RdFacts.set_far (RdFacts.set_far (RdFacts.set_far HQ4.out hn _) hn _) hn _) hn _) hn _) (fun b hb => Nat.le_trans (Below.size HB2.out) hb)
  · have hn : ¬ New w3 w.heap.size := fun h => by have h' : w3.heap.size ≤ w.heap.size := h; omega
    exact RdFacts.newer (RdFacts.set_far (RdFacts.set_far (RdFacts.set_far (RdFacts.set_far (RdFacts.set_far HR4.out hn _) hn _) hn _) hn _) hn _) (fun b hb => Nat.le_trans (Below.size HB3.out) hb)
end Go.Proofs.YtbbiapgkcekabaaGreat

/-
  THE WALKS OF round.Steps, All.
-/
namespace Go.Proofs.YtbbiapgkcekabaaGreat
open Go.RowKit

theorem steps_bad {st : List Int} {q : Int} {p : List PRule} {r : PRun} {n : Int} (h : runBad st q p r ≠ 0) : stepsRun st q p r n = (zeroRun, runBad st q p r) := by unfold stepsRun; rw [if_pos h]
theorem steps_range {st : List Int} {q : Int} {p : List PRule} {r : PRun} {n : Int} (h : runBad st q p r = 0) (hn : n < 0 ∨ 1000 < n) : stepsRun st q p r n = (zeroRun, 3) := by unfold stepsRun; rw [if_neg (by simpa using h), if_pos hn]
theorem steps_iter {st : List Int} {q : Int} {p : List PRule} {r : PRun} {n : Int} (h : runBad st q p r = 0) (h1 : ¬ n < 0) (h2 : ¬ 1000 < n) : stepsRun st q p r n = iterP st q p n.toNat r := by
  unfold stepsRun; rw [if_neg (by simpa using h), if_neg (fun e => e.elim h1 h2)]
theorem iter_done {st : List Int} {q : Int} {p : List PRule} {r : PRun} {k : Nat} (h : r.done = true) : iterP st q p (k + 1) r = (r, 0) := by rw [iterP, if_pos h]
theorem iter_err {st : List Int} {q : Int} {p : List PRule} {r : PRun} {k : Nat} (h : r.done = false) (he : (stepRun st q p r).2 ≠ 0) : iterP st q p (k + 1) r = (zeroRun, (stepRun st q p r).2) := by rw [iterP, if_neg (by simp [h]), if_pos he]
theorem iter_next {st : List Int} {q : Int} {p : List PRule} {r : PRun} {k : Nat} (h : r.done = false) (he : (stepRun st q p r).2 = 0) : iterP st q p (k + 1) r = iterP st q p k (stepRun st q p r).1 := by rw [iterP, if_neg (by simp [h]), if_neg (by simpa using he)]
/-- What a step makes is small. -/
theorem make_args {s : Int} {K N : List PFact} {m : Nat} : ∀ {ps : List (PRule × Int)} {o : List PFact}, (∀ r t, (r, t) ∈ ps → r.head.terms.length ≤ m) → (∀ z ∈ o, z.args.length ≤ m) → ∀ z ∈ (makeP s K N ps o).1, z.args.length ≤ m
  | [], o, _, ho, z, hz => ho z hz
  | (r, t) :: ps, o, hp, ho, z, hz => by
    have hp' : ∀ r t, (r, t) ∈ ps → r.head.terms.length ≤ m := fun r t h => hp r t (List.mem_cons_of_mem _ h)
    rw [makeP] at hz
    split at hz
    · exact make_args hp' ho z hz
    · split at hz
      · simp at hz
      · exact make_args hp' (fun y hy => (List.mem_append.1 hy).elim (ho y) fun h => by rw [newHeads_args y h]; exact hp r t (by simp)) z hz
theorem step_small {st : List Int} {q : Int × Int} {p : List PRule} {r : PRun} (n2 : ∀ r ∈ p, RuleSmall r) (ns : RunSmall r) : RunSmall (stepRun st q.1 p r).1 := by
  have hz : RunSmall zeroRun := ⟨by simp [zeroRun], by simp [zeroRun], by simp [zeroRun], by simp [zeroRun]⟩
  unfold stepRun
  split
  · exact hz
  unfold goodStep
  split
  · exact ns
  split
  · exact hz
  split
  · exact hz
  split
  · exact hz
  rename_i hl
  have hm : ∀ z ∈ (makeP r.stratum r.known r.new (p.zip st) []).1, z.args.length ≤ 1048576 := make_args (fun r t h => (n2 r (List.of_mem_zip h).1).h1) (by simp)
  generalize (makeP r.stratum r.known r.new (p.zip st) []).1 = o at *
  have h1 : ∀ z ∈ lessF (ofF o) r.known, z.args.length ≤ 1048576 := fun z hz => hm z ((mem_ofF z o).1 (List.mem_filter.1 hz).1)
  have h2 : ∀ z ∈ joinF r.known (lessF (ofF o) r.known), z.args.length ≤ 1048576 := fun z hz => ((mem_joinF _ _ z).1 hz).elim (ns.k2 z) (h1 z)
  have h3 : (lessF (ofF o) r.known).length ≤ (joinF r.known (lessF (ofF o) r.known)).length := rising_sub_le (List.Pairwise.sublist List.filter_sublist (ofF_rising o)) fun z hz => (mem_joinF _ _ z).2 (.inr hz)
  have hl' : (joinF r.known (lessF (ofF o) r.known)).length ≤ 200 := by
    have := hl
    omega
  unfold nextRun
  split
  · exact ⟨by show (joinF r.known (lessF (ofF o) r.known)).length ≤ _; omega, h2, by show (joinF r.known (lessF (ofF o) r.known)).length ≤ _; omega, h2⟩
  · exact ⟨by show (joinF r.known (lessF (ofF o) r.known)).length ≤ _; omega, h2, by show (lessF (ofF o) r.known).length ≤ _; omega, h1⟩

/-- A run that a call works on: its cells, and the result's. -/
def OnRun (w W : World) (r : PRun) : Prop := ∃ a c b d, SpW w W (.slice a r.known.length c) (.slice b r.new.length d) r.stratum r.rounds r.done ∧
  RdFacts (fun q => w.heap.size + 2 ≤ q) W (.slice a r.known.length c) r.known ∧ RdFacts (fun q => w.heap.size + 2 ≤ q) W (.slice b r.new.length d) r.new

theorem onRun_own {w W : World} {r : PRun} {kv nv : Value} {a b : Option Addr} {c d : Nat} (h : SpW w W kv nv r.stratum r.rounds r.done) (h1 : RdFacts (fun q => w.heap.size + 2 ≤ q) W (.slice a r.known.length c) r.known) (h2 : RdFacts (fun q => w.heap.size + 2 ≤ q) W (.slice b r.new.length d) r.new) :
    OnRun w ((W.setCell ⟨w.heap.size, 0, none⟩ (.slice a r.known.length c)).setCell ⟨w.heap.size, 1, none⟩ (.slice b r.new.length d)) r := by
  have hx : ¬ (fun q => w.heap.size + 2 ≤ q) w.heap.size := fun h => by have h' : w.heap.size + 2 ≤ w.heap.size := h; omega
  have hn : w.heap.size + 1 ≠ w.heap.size := by omega
  exact ⟨a, c, b, d, ⟨(h.below.setCell (Nat.le_refl _) _).setCell (Nat.le_refl _) _, (h.rb.set_ 0 (.slice a r.known.length c)).set_ 1 (.slice b r.new.length d), (h.q.far (p := ⟨w.heap.size, 0, none⟩) hn _).far (p := ⟨w.heap.size, 1, none⟩) hn _⟩,
    RdFacts.set_far (RdFacts.set_far h1 hx _) hx _, RdFacts.set_far (RdFacts.set_far h2 hx _) hx _⟩
theorem onRun_store {w W : World} {kv nv : Value} {s x : Int} {dn : Bool} {r : PRun} {a b : Option Addr} {c d : Nat} (h : SpW w W kv nv s x dn) (h1 : RdFacts (fun q => w.heap.size + 2 ≤ q) W (.slice a r.known.length c) r.known) (h2 : RdFacts (fun q => w.heap.size + 2 ≤ q) W (.slice b r.new.length d) r.new) :
    OnRun w (((((W.setCell ⟨w.heap.size, 0, none⟩ (.slice a r.known.length c)).setCell ⟨w.heap.size, 1, none⟩ (.slice b r.new.length d)).setCell ⟨w.heap.size, 2, none⟩ (.int .i64 r.stratum)).setCell ⟨w.heap.size, 3, none⟩ (.int .i64 r.rounds)).setCell ⟨w.heap.size, 4, none⟩ (.bool r.done)) r := by
  have hx : ¬ (fun q => w.heap.size + 2 ≤ q) w.heap.size := fun h => by have h' : w.heap.size + 2 ≤ w.heap.size := h; omega
  have hn : w.heap.size + 1 ≠ w.heap.size := by omega
  refine ⟨a, c, b, d, ⟨?_, ?_, ?_⟩, ?_, ?_⟩
  · exact ((((h.below.setCell (Nat.le_refl _) _).setCell (Nat.le_refl _) _).setCell (Nat.le_refl _) _).setCell (Nat.le_refl _) _).setCell (Nat.le_refl _) _
  · exact ((((h.rb.set_ 0 (.slice a r.known.length c)).set_ 1 (.slice b r.new.length d)).set_ 2 (.int .i64 r.stratum)).set_ 3 (.int .i64 r.rounds)).set_ 4 (.bool r.done)
  · exact ((((h.q.far (p := ⟨w.heap.size, 0, none⟩) hn _).far (p := ⟨w.heap.size, 1, none⟩) hn _).far (p := ⟨w.heap.size, 2, none⟩) hn _).far (p := ⟨w.heap.size, 3, none⟩) hn _).far (p := ⟨w.heap.size, 4, none⟩) hn _
  · exact RdFacts.set_far (RdFacts.set_far (RdFacts.set_far (RdFacts.set_far (RdFacts.set_far h1 hx _) hx _) hx _) hx _) hx _
  · exact RdFacts.set_far (RdFacts.set_far (RdFacts.set_far (RdFacts.set_far (RdFacts.set_far h2 hx _) hx _) hx _) hx _) hx _

attribute [local go_sem ↓] Go.wp_at_zero Go.wp_at_succ
set_option maxRecDepth 100000 in
set_option maxHeartbeats 16000000 in
theorem stepsRunCalls {S : Nat → Prop} (p : List PRule) (v : Value) (st : List Int) (q : Int × Int) (r : PRun) (kv nv : Value) (n : Int) (w : World) (hS : StrataIs p st q) (h : RdRules S w v p) (hr : RunRd w r kv nv)
    (n1 : p.length ≤ 1048576) (n2 : ∀ r ∈ p, RuleSmall r) (n3 : ∀ r ∈ p, NameSmall r) (ns : RunSmall r) :
    Calls Tryz.prog 34 #[v, .agg #[kv, nv, .int .i64 r.stratum, .int .i64 r.rounds, .bool r.done], .int .i64 n] w (RunPost (stepsRun st q.1 p r n) w) := by
  obtain ⟨rk, rn, rs, rr, rd⟩ := r
  obtain ⟨a, c, rfl, -, -, -⟩ := id h.form
  obtain ⟨ka, kc, rfl, -, -, -⟩ := id hr.known.form
  obtain ⟨na, nc, rfl, -, -, -⟩ := id hr.new.form
  obtain ⟨W0, hW0⟩ : ∃ W0 : World, (w.alloc (.cells #[.slice ka rk.length kc, .slice na rn.length nc, .int .i64 rs, .int .i64 rr, .bool rd] 47)).alloc (.cells #[.slice none 0 0, .slice none 0 0, .int .i64 0, .int .i64 0, .bool false] 47) = W0 := ⟨_, rfl⟩
  have hw0 : SpW w W0 (.slice ka rk.length kc) (.slice na rn.length nc) rs rr rd := by
    subst hW0
    exact ⟨((Below.refl _ _).alloc (Nat.le_refl _) _).alloc (by simp) _, (Blk.new w _ _).alloc _, heap_new_at (by simp)⟩
  have HW0 := Lib.hid hw0
  have H := Lib.hid h
  have HR := Lib.hid hr
  have N2 := Lib.hid n2
  have N3 := Lib.hid n3
  have NS := Lib.hid ns
  have HS := Lib.hid hS
  have KB := Lib.hid (runWrongCalls p _ st q ⟨rk, rn, rs, rr, rd⟩ (.slice ka rk.length kc) (.slice na rn.length nc) W0 hS (h.up hw0.below) (hr.up hw0.below) n1 n2 n3 ns)
  clear h hr n2 n3 ns hw0 hS
  have r0 := HW0.out.rb.cell 0; have r1 := HW0.out.rb.cell 1; have r2 := HW0.out.rb.cell 2; have r3 := HW0.out.rb.cell 3; have r4 := HW0.out.rb.cell 4
  simp only [List.getElem?_toArray, List.getElem?_cons_zero, List.getElem?_cons_succ] at r0 r1 r2 r3 r4
  have hq1 : w.heap.size ≤ w.heap.size + 1 := Nat.le_succ _
  have E1 := Lib.hid (steps_bad (st := st) (q := q.1) (p := p) (r := ⟨rk, rn, rs, rr, rd⟩) (n := n))
  have E2 := Lib.hid (steps_range (st := st) (q := q.1) (p := p) (r := ⟨rk, rn, rs, rr, rd⟩) (n := n))
  have E3 := Lib.hid (steps_iter (st := st) (q := q.1) (p := p) (r := ⟨rk, rn, rs, rr, rd⟩) (n := n))
  generalize runBad st q.1 p ⟨rk, rn, rs, rr, rd⟩ = x at *
  dsimp only at *
  by_cases hx : x = 0
  case neg =>
    have g1 : (x != 0) = true := by simpa using hx
    have HE := Lib.hid (E1.out hx)
    clear hx E1 E2 E3
    go_enter Tryz.func34, Tryz.ntmps34
    go_wp2_with (go_at_call 30; refine (KB.out).mono ?_; rintro e w1 ⟨rfl, hb1⟩; have HW1 := Lib.hid (HW0.out.next hb1); have c0 := HW1.out.q.cell 0; have c1 := HW1.out.q.cell 1; have c2 := HW1.out.q.cell 2; have c3 := HW1.out.q.cell 3; have c4 := HW1.out.q.cell 4; have z0 := HW1.out.q.frozen 0; have z1 := HW1.out.q.frozen 1; have z2 := HW1.out.q.frozen 2; have z3 := HW1.out.q.frozen 3; have z4 := HW1.out.q.frozen 4; simp only [List.getElem?_toArray, List.getElem?_cons_zero, List.getElem?_cons_succ] at c0 c1 c2 c3 c4; clear hb1 r0 r1 r2 r3 r4)
    refine bodyPost_ret (v := .tuple #[.agg #[.slice none 0 0, .slice none 0 0, .int .i64 0, .int .i64 0, .bool false], .int .i64 x]) (by simp [results, Tryz.results34, go_sem, c0, c1, c2, c3, c4]) rfl (run_ret_err HE.out ?_)
    exact ((((HW1.out.below.setCell hq1 _).setCell hq1 _).setCell hq1 _).setCell hq1 _).setCell hq1 _
  subst hx
  by_cases hrg : n < 0 ∨ 1000 < n
  · have HE := Lib.hid (E2.out rfl hrg)
    clear E1 E2 E3
    have hcs : n < 0 ∨ ¬ n < 0 ∧ 1000 < n := by omega
    clear hrg
    rcases hcs with h1 | ⟨h1, h2⟩
    all_goals
      go_enter Tryz.func34, Tryz.ntmps34
      go_wp2_with (go_at_call 30; refine (KB.out).mono ?_; rintro e w1 ⟨rfl, hb1⟩; have HW1 := Lib.hid (HW0.out.next hb1); have c0 := HW1.out.q.cell 0; have c1 := HW1.out.q.cell 1; have c2 := HW1.out.q.cell 2; have c3 := HW1.out.q.cell 3; have c4 := HW1.out.q.cell 4; have z0 := HW1.out.q.frozen 0; have z1 := HW1.out.q.frozen 1; have z2 := HW1.out.q.frozen 2; have z3 := HW1.out.q.frozen 3; have z4 := HW1.out.q.frozen 4; simp only [List.getElem?_toArray, List.getElem?_cons_zero, List.getElem?_cons_succ] at c0 c1 c2 c3 c4; clear hb1 r0 r1 r2 r3 r4)
      refine bodyPost_ret (v := .tuple #[.agg #[.slice none 0 0, .slice none 0 0, .int .i64 0, .int .i64 0, .bool false], .int .i64 3]) (by simp [results, Tryz.results34, go_sem, c0, c1, c2, c3, c4]) rfl (run_ret_err HE.out ?_)
      exact ((((HW1.out.below.setCell hq1 _).setCell hq1 _).setCell hq1 _).setCell hq1 _).setCell hq1 _
  obtain ⟨h1, h2⟩ : ¬ n < 0 ∧ ¬ 1000 < n := ⟨fun h => hrg (.inl h), fun h => hrg (.inr h)⟩
  have HE := Lib.hid (E3.out rfl h1 h2)
  clear E1 E2 E3 hrg
  obtain ⟨m, rfl⟩ : ∃ m : Nat, n = m := ⟨n.toNat, by omega⟩
  have KO1 := Lib.hid (fun W (hW : Below w.heap.size w W) => ownReads (RdFacts.up HR.out.known hW) NS.out.k1 NS.out.k2)
  have KO2 := Lib.hid (fun W (hW : Below w.heap.size w W) => ownReads (RdFacts.up HR.out.new hW) NS.out.n1 NS.out.n2)
  go_enter Tryz.func34, Tryz.ntmps34
  go_wp2_with (go_at_call 30; refine (KB.out).mono ?_; rintro e w1 ⟨rfl, hb1⟩; have HW1 := Lib.hid (HW0.out.next hb1); have k0 := HW1.out.rb.cell 0; have k1 := HW1.out.rb.cell 1; have z0 := HW1.out.rb.frozen 0; have z1 := HW1.out.rb.frozen 1; simp only [List.getElem?_toArray, List.getElem?_cons_zero, List.getElem?_cons_succ] at k0 k1; clear hb1 r0 r1 r2 r3 r4)
  clear hW0 KB HW0
  go_cut [] (fun wx => OnRun w wx ⟨rk, rn, rs, rr, rd⟩)
  case first =>
    go_region_law (first
      | (go_simp; go_at_call 54; have hh := HW3.out; clear hh; (with_reducible refine (KO2.out _ HW3.out.below).mono ?_); rintro e w4 ⟨⟨a4, c4', rfl, hr4⟩, hb4⟩; have HW4 := Lib.hid (HW3.out.next hb4); have HN4 := Lib.hid (hr4.more RFact.steady (S' := fun q => w.heap.size + 2 ≤ q) (fun q hq _ => by have h3 := HW3.out.lt; have h2 : w3.heap.size ≤ q := hq; omega)); have HK4 := Lib.hid (RdSlice.agree RFact.steady (Below.agree hb4) HK3.out); have y0 := HW4.out.rb.frozen 0; have y1 := HW4.out.rb.frozen 1; have l0 := HW4.out.rb.cell 0; have l1 := HW4.out.rb.cell 1; simp only [List.getElem?_toArray, List.getElem?_cons_zero, List.getElem?_cons_succ] at l0 l1; clear hb4 hr4)
      | (go_simp; go_at_call 54; (with_reducible refine (KO1.out _ HW1.out.below.drew).mono ?_); rintro e w3 ⟨⟨a3, c3', rfl, hr3⟩, hb3⟩; have HW3 := Lib.hid (HW1.out.drew.next hb3); have HK3 := Lib.hid (hr3.more RFact.steady (S' := fun q => w.heap.size + 2 ≤ q) (fun q hq _ => by have h3 := HW1.out.lt; have h2 : w1.heap.size ≤ q := hq; omega)); have j0 := HW3.out.rb.cell 0; have j1 := HW3.out.rb.cell 1; simp only [List.getElem?_toArray, List.getElem?_cons_zero, List.getElem?_cons_succ] at j0 j1; clear hb3 hr3))
    all_goals
      go_wp2_with fail
      go_meet
      exact onRun_own (r := ⟨rk, rn, rs, rr, rd⟩) HW4.out HK4.out HN4.out
  have HON := Lib.hid hcut
  clear hcut k0 k1 z0 z1 KO1 KO2 HW1
  have HEI := Lib.hid (show stepsRun st q.1 p ⟨rk, rn, rs, rr, rd⟩ (m : Int) = iterP st q.1 p (m - 0) ⟨rk, rn, rs, rr, rd⟩ from HE.out)
  clear HE h1
  go_wp2
  go_loopw [34] (fun i wr => ∃ (j : Nat) (cur : PRun), j ≤ m ∧ i = .int .i64 j ∧ Hid (OnRun w wr cur) ∧ Hid (RunSmall cur) ∧ Hid (stepsRun st q.1 p ⟨rk, rn, rs, rr, rd⟩ (m : Int) = iterP st q.1 p (m - j) cur)) (fun i _ => m - (intOf i).toNat)
  case atStart => exact ⟨0, ⟨rk, rn, rs, rr, rd⟩, Nat.zero_le _, rfl, HON, NS, HEI⟩
  case round =>
    clear HON HEI
    obtain ⟨j, ⟨ck, cn, cs, cr, cd⟩, hj, rfl, HO, HNS, HE⟩ := hrel
    obtain ⟨a5, c5, b5, d5, hw5, hk5, hn5⟩ := HO.out
    have HW5 := Lib.hid hw5
    have HK5 := Lib.hid hk5
    have HN5 := Lib.hid hn5
    clear hw5 hk5 hn5 HO
    have u0 := HW5.out.rb.cell 0; have u1 := HW5.out.rb.cell 1; have u2 := HW5.out.rb.cell 2; have u3 := HW5.out.rb.cell 3; have u4 := HW5.out.rb.cell 4
    have c0 := HW5.out.q.cell 0; have c1 := HW5.out.q.cell 1; have c2 := HW5.out.q.cell 2; have c3 := HW5.out.q.cell 3; have c4 := HW5.out.q.cell 4
    have z0 := HW5.out.q.frozen 0; have z1 := HW5.out.q.frozen 1; have z2 := HW5.out.q.frozen 2; have z3 := HW5.out.q.frozen 3; have z4 := HW5.out.q.frozen 4
    simp only [List.getElem?_toArray, List.getElem?_cons_zero, List.getElem?_cons_succ] at u0 u1 u2 u3 u4 c0 c1 c2 c3 c4
    have hnq : ¬ (fun q => w.heap.size + 2 ≤ q) (w.heap.size + 1) := fun h => by have h' : w.heap.size + 2 ≤ w.heap.size + 1 := h; omega
    have HEND := Lib.hid (show iterP st q.1 p (m - j) ⟨ck, cn, cs, cr, cd⟩ = (⟨ck, cn, cs, cr, cd⟩, 0) → RunPost (stepsRun st q.1 p ⟨rk, rn, rs, rr, rd⟩ (m : Int)) w (.returned (.tuple #[.agg #[.slice a5 ck.length c5, .slice b5 cn.length d5, .int .i64 cs, .int .i64 cr, .bool cd], .int .i64 0])) (((((wr.setCell ⟨w.heap.size + 1, 0, none⟩ (.slice a5 ck.length c5)).setCell ⟨w.heap.size + 1, 1, none⟩ (.slice b5 cn.length d5)).setCell ⟨w.heap.size + 1, 2, none⟩ (.int .i64 cs)).setCell ⟨w.heap.size + 1, 3, none⟩ (.int .i64 cr)).setCell ⟨w.heap.size + 1, 4, none⟩ (.bool cd)) from fun he => by
      refine run_ret_ok (HE.out.trans he) ?_ ?_ ?_
      · exact ((((HW5.out.below.setCell hq1 _).setCell hq1 _).setCell hq1 _).setCell hq1 _).setCell hq1 _
      · exact RdFacts.newer (RdFacts.set_far (RdFacts.set_far (RdFacts.set_far (RdFacts.set_far (RdFacts.set_far HK5.out hnq _) hnq _) hnq _) hnq _) hnq _) (fun b hb => by have h' : w.heap.size + 2 ≤ b := hb; omega)
      · exact RdFacts.newer (RdFacts.set_far (RdFacts.set_far (RdFacts.set_far (RdFacts.set_far (RdFacts.set_far HN5.out hnq _) hnq _) hnq _) hnq _) hnq _) (fun b hb => by have h' : w.heap.size + 2 ≤ b := hb; omega))
    by_cases hlt : j < m
    · obtain ⟨l, hl⟩ : ∃ l, m - j = l + 1 := ⟨m - j - 1, by omega⟩
      have HL := Lib.hid (show m - (j + 1) = l by omega)
      rw [hl] at HE HEND
      clear hl
      cases cd
      case true =>
        have HP := Lib.hid (HEND.out (iter_done rfl))
        clear HEND HE
        go_wp2
        refine bodyPost_ret (v := .tuple #[.agg #[.slice a5 ck.length c5, .slice b5 cn.length d5, .int .i64 cs, .int .i64 cr, .bool true], .int .i64 0]) (by simp [results, Tryz.results34, go_sem, c0, c1, c2, c3, c4]) rfl HP.out
      have KP := Lib.hid (stepRunCalls p (.slice a p.length c) st q ⟨ck, cn, cs, cr, false⟩ (.slice a5 ck.length c5) (.slice b5 cn.length d5) wr HS.out (H.out.up HW5.out.below) ⟨HK5.out.any, HN5.out.any⟩ n1 N2.out N3.out HNS.out)
      have HSM := Lib.hid (step_small (st := st) (q := q) (p := p) N2.out HNS.out)
      have I1 := Lib.hid (fun he => HE.out.trans (iter_err rfl he))
      have I2 := Lib.hid (fun he => HE.out.trans (iter_next rfl he))
      clear HE HEND
      generalize stepRun st q.1 p ⟨ck, cn, cs, cr, false⟩ = x at *
      obtain ⟨⟨dk, dn, ds, dr, dd⟩, er⟩ := x
      dsimp only at *
      by_cases he : er = 0
      case neg =>
        have g2 : (er != 0) = true := by simpa using he
        have HEE := Lib.hid (I1.out he)
        clear he I1 I2
        go_wp2_with (go_at_call 32; refine (KP.out).mono ?_; rintro e w6 ⟨hb6, a6, c6, b6, d6, rfl, hk6, hn6⟩; have HW6 := Lib.hid ((HW5.out.next hb6).alloc (.cells #[.slice a6 dk.length c6, .slice b6 dn.length d6, .int .i64 ds, .int .i64 dr, .bool dd] 47)); have l0 := HW6.out.q.cell 0; have l1 := HW6.out.q.cell 1; have l2 := HW6.out.q.cell 2; have l3 := HW6.out.q.cell 3; have l4 := HW6.out.q.cell 4; have y0 := HW6.out.q.frozen 0; have y1 := HW6.out.q.frozen 1; have y2 := HW6.out.q.frozen 2; have y3 := HW6.out.q.frozen 3; have y4 := HW6.out.q.frozen 4; simp only [List.getElem?_toArray, List.getElem?_cons_zero, List.getElem?_cons_succ] at l0 l1 l2 l3 l4; clear hb6 hk6 hn6 u0 u1 u2 u3 u4 c0 c1 c2 c3 c4 z0 z1 z2 z3 z4)
        refine bodyPost_ret (v := .tuple #[.agg #[.slice none 0 0, .slice none 0 0, .int .i64 0, .int .i64 0, .bool false], .int .i64 er]) (by simp [results, Tryz.results34, go_sem, l0, l1, l2, l3, l4]) rfl (run_ret_err HEE.out ?_)
        exact ((((HW6.out.below.setCell hq1 _).setCell hq1 _).setCell hq1 _).setCell hq1 _).setCell hq1 _
      subst he
      have HEE := Lib.hid (show stepsRun st q.1 p ⟨rk, rn, rs, rr, rd⟩ (m : Int) = iterP st q.1 p (m - (j + 1)) ⟨dk, dn, ds, dr, dd⟩ by rw [HL.out]; exact I2.out rfl)
      clear I1 I2
      go_wp2_with (go_at_call 32; refine (KP.out).mono ?_; rintro e w6 ⟨hb6, a6, c6, b6, d6, rfl, hk6, hn6⟩; have hw6 := (HW5.out.next hb6).alloc (.cells #[.slice a6 dk.length c6, .slice b6 dn.length d6, .int .i64 ds, .int .i64 dr, .bool dd] 47); have hw5l := HW5.out.lt; have hk7 : RdFacts (fun q => w.heap.size + 2 ≤ q) (w6.alloc (.cells #[.slice a6 dk.length c6, .slice b6 dn.length d6, .int .i64 ds, .int .i64 dr, .bool dd] 47)) (.slice a6 dk.length c6) dk := (RdSlice.agree RFact.steady ((Agree.refl _ _).alloc _) hk6).more RFact.steady (fun b hb _ => by have h' : wr.heap.size ≤ b := hb; omega); have hn7 : RdFacts (fun q => w.heap.size + 2 ≤ q) (w6.alloc (.cells #[.slice a6 dk.length c6, .slice b6 dn.length d6, .int .i64 ds, .int .i64 dr, .bool dd] 47)) (.slice b6 dn.length d6) dn := (RdSlice.agree RFact.steady ((Agree.refl _ _).alloc _) hn6).more RFact.steady (fun b hb _ => by have h' : wr.heap.size ≤ b := hb; omega); have HON := Lib.hid (onRun_store (r := ⟨dk, dn, ds, dr, dd⟩) hw6 hk7 hn7); have l0 := hw6.rb.cell 0; have l1 := hw6.rb.cell 1; have l2 := hw6.rb.cell 2; have l3 := hw6.rb.cell 3; have l4 := hw6.rb.cell 4; have y0 := hw6.rb.frozen 0; have y1 := hw6.rb.frozen 1; have y2 := hw6.rb.frozen 2; have y3 := hw6.rb.frozen 3; have y4 := hw6.rb.frozen 4; simp only [List.getElem?_toArray, List.getElem?_cons_zero, List.getElem?_cons_succ] at l0 l1 l2 l3 l4; clear hb6 hk6 hn6 hw6 hk7 hn7 u0 u1 u2 u3 u4 c0 c1 c2 c3 c4 z0 z1 z2 z3 z4)
      go_roundw
      case rel => exact ⟨j + 1, ⟨dk, dn, ds, dr, dd⟩, by omega, by go_num, HON, HSM, HEE⟩
      case measure => simp [intOf]; omega
    · have HP := Lib.hid (HEND.out (by rw [show m - j = 0 by omega]; rfl))
      clear HEND HE
      go_wp2
      refine bodyPost_ret (v := .tuple #[.agg #[.slice a5 ck.length c5, .slice b5 cn.length d5, .int .i64 cs, .int .i64 cr, .bool cd], .int .i64 0]) (by simp [results, Tryz.results34, go_sem, c0, c1, c2, c3, c4]) rfl HP.out
end Go.Proofs.YtbbiapgkcekabaaGreat

/-
  THE WALK OF cororef4.Steps.
-/
namespace Go.Proofs.YtbbiapgkcekabaaGreat
open Go.RowKit Go.Maps

theorem step_on {st : List Int} {q : Int} {p : List PRule} (hq : q = 0) (hR : Ruled st p) {r : PRun} (h : RunOk st p r) : (stepRun st q p r).2 = 0 → RunOk st p (stepRun st q p r).1 := by
  subst hq
  intro h0
  rcases step_right hR h with h1 | h1 | ⟨-, h2⟩
  · rw [h0] at h1; exact absurd h1 (by decide)
  · rw [h0] at h1; exact absurd h1 (by decide)
  · exact h2.ok
/-- Neither the run's block nor the answer's. -/
def OffR (U : Nat → Prop) (w : World) : Nat → Prop := fun b => (U b ∨ w.heap.size ≤ b) ∧ b ≠ w.heap.size ∧ b ≠ w.heap.size + 1
def OnRunR (U : Nat → Prop) (w W : World) (r : PRun) : Prop := ∃ a c b d, SpW w W (.slice a r.known.length c) (.slice b r.new.length d) r.stratum r.rounds r.done ∧
  RdFacts (OffR U w) W (.slice a r.known.length c) r.known ∧ RdFacts (OffR U w) W (.slice b r.new.length d) r.new
theorem onRunR_start {U : Nat → Prop} {w W : World} {r : PRun} {a b : Option Addr} {c d : Nat} (h : SpW w W (.slice a r.known.length c) (.slice b r.new.length d) r.stratum r.rounds r.done) (h1 : RdFacts (fun b => U b ∧ b < w.heap.size) w (.slice a r.known.length c) r.known) (h2 : RdFacts (fun b => U b ∧ b < w.heap.size) w (.slice b r.new.length d) r.new) : OnRunR U w W r :=
  ⟨a, c, b, d, h, (RdSlice.agree RFact.steady (Below.agree h.below) h1).more RFact.steady (fun b hb _ => by have h' := hb.2; exact ⟨.inl hb.1, by omega, by omega⟩), (RdSlice.agree RFact.steady (Below.agree h.below) h2).more RFact.steady (fun b hb _ => by have h' := hb.2; exact ⟨.inl hb.1, by omega, by omega⟩)⟩
theorem onRunR_store {U : Nat → Prop} {w W : World} {kv nv : Value} {s x : Int} {dn : Bool} {r : PRun} {a b : Option Addr} {c d : Nat} (h : SpW w W kv nv s x dn) (h1 : RdFacts (OffR U w) W (.slice a r.known.length c) r.known) (h2 : RdFacts (OffR U w) W (.slice b r.new.length d) r.new) :
    OnRunR U w (((((W.setCell ⟨w.heap.size, 0, none⟩ (.slice a r.known.length c)).setCell ⟨w.heap.size, 1, none⟩ (.slice b r.new.length d)).setCell ⟨w.heap.size, 2, none⟩ (.int .i64 r.stratum)).setCell ⟨w.heap.size, 3, none⟩ (.int .i64 r.rounds)).setCell ⟨w.heap.size, 4, none⟩ (.bool r.done)) r := by
  have hx : ¬ OffR U w w.heap.size := fun h => h.2.1 rfl
  have hn : w.heap.size + 1 ≠ w.heap.size := by omega
  refine ⟨a, c, b, d, ⟨?_, ?_, ?_⟩, ?_, ?_⟩
  · exact ((((h.below.setCell (Nat.le_refl _) _).setCell (Nat.le_refl _) _).setCell (Nat.le_refl _) _).setCell (Nat.le_refl _) _).setCell (Nat.le_refl _) _
  · exact ((((h.rb.set_ 0 (.slice a r.known.length c)).set_ 1 (.slice b r.new.length d)).set_ 2 (.int .i64 r.stratum)).set_ 3 (.int .i64 r.rounds)).set_ 4 (.bool r.done)
  · exact ((((h.q.far (p := ⟨w.heap.size, 0, none⟩) hn _).far (p := ⟨w.heap.size, 1, none⟩) hn _).far (p := ⟨w.heap.size, 2, none⟩) hn _).far (p := ⟨w.heap.size, 3, none⟩) hn _).far (p := ⟨w.heap.size, 4, none⟩) hn _
  · exact RdFacts.set_far (RdFacts.set_far (RdFacts.set_far (RdFacts.set_far (RdFacts.set_far h1 hx _) hx _) hx _) hx _) hx _
  · exact RdFacts.set_far (RdFacts.set_far (RdFacts.set_far (RdFacts.set_far (RdFacts.set_far h2 hx _) hx _) hx _) hx _) hx _

attribute [local go_sem ↓] Go.wp_at_zero Go.wp_at_succ
set_option maxRecDepth 100000 in
set_option maxHeartbeats 16000000 in
theorem stepsRefU {S U : Nat → Prop} (p : List PRule) (v : Value) (st : List Int) (q : Int × Int) (r : PRun) (kv nv : Value) (n : Int) (w : World) (hS : StrataIs p st q) (h : RdRules S w v p) (hr : RunRd w r kv nv) (hk : RdFacts U w kv r.known) (hn : RdFacts U w nv r.new)
    (n1 : p.length ≤ 1048576) (n2 : ∀ r ∈ p, RuleSmall r) (n3 : ∀ r ∈ p, NameSmall r) (ns : RunSmall r) (m1 : FactsSmall r.known) (m2 : FactsSmall r.new) :
    Calls Tryz.prog 35 #[v, .agg #[kv, nv, .int .i64 r.stratum, .int .i64 r.rounds, .bool r.done], .int .i64 n] w (RunU U (stepsRun st q.1 p r n) w) := by
  obtain ⟨rk, rn, rs, rr, rd⟩ := r
  obtain ⟨a, c, rfl, -, -, -⟩ := id h.form
  obtain ⟨ka, kc, rfl, -, -, -⟩ := id hr.known.form
  obtain ⟨na, nc, rfl, -, -, -⟩ := id hr.new.form
  obtain ⟨W0, hW0⟩ : ∃ W0 : World, (w.alloc (.cells #[.slice ka rk.length kc, .slice na rn.length nc, .int .i64 rs, .int .i64 rr, .bool rd] 47)).alloc (.cells #[.slice none 0 0, .slice none 0 0, .int .i64 0, .int .i64 0, .bool false] 47) = W0 := ⟨_, rfl⟩
  have hw0 : SpW w W0 (.slice ka rk.length kc) (.slice na rn.length nc) rs rr rd := by
    subst hW0
    exact ⟨((Below.refl _ _).alloc (Nat.le_refl _) _).alloc (by simp) _, (Blk.new w _ _).alloc _, heap_new_at (by simp)⟩
  have HW0 := Lib.hid hw0
  have H := Lib.hid h
  have HR := Lib.hid hr
  have N2 := Lib.hid n2
  have N3 := Lib.hid n3
  have NS := Lib.hid ns
  have HS := Lib.hid hS
  have KB := Lib.hid (wrongRunRef p _ st q ⟨rk, rn, rs, rr, rd⟩ (.slice ka rk.length kc) (.slice na rn.length nc) W0 hS (h.up hw0.below) (hr.up hw0.below) n1 n2 n3 ns m1 m2)
  have HK0 := Lib.hid (hk.more RFact.steady (S' := fun b => U b ∧ b < w.heap.size) (fun _ hb hl => ⟨hb, hl⟩))
  have HN0 := Lib.hid (hn.more RFact.steady (S' := fun b => U b ∧ b < w.heap.size) (fun _ hb hl => ⟨hb, hl⟩))
  have H0 := Lib.hid (runBad_zero (st := st) (q := q.1) (p := p) (r := ⟨rk, rn, rs, rr, rd⟩))
  clear h hr hk hn n2 n3 ns hw0 hS m1 m2
  have r0 := HW0.out.rb.cell 0; have r1 := HW0.out.rb.cell 1; have r2 := HW0.out.rb.cell 2; have r3 := HW0.out.rb.cell 3; have r4 := HW0.out.rb.cell 4
  simp only [List.getElem?_toArray, List.getElem?_cons_zero, List.getElem?_cons_succ] at r0 r1 r2 r3 r4
  have hq1 : w.heap.size ≤ w.heap.size + 1 := Nat.le_succ _
  have E1 := Lib.hid (steps_bad (st := st) (q := q.1) (p := p) (r := ⟨rk, rn, rs, rr, rd⟩) (n := n))
  have E2 := Lib.hid (steps_range (st := st) (q := q.1) (p := p) (r := ⟨rk, rn, rs, rr, rd⟩) (n := n))
  have E3 := Lib.hid (steps_iter (st := st) (q := q.1) (p := p) (r := ⟨rk, rn, rs, rr, rd⟩) (n := n))
  generalize runBad st q.1 p ⟨rk, rn, rs, rr, rd⟩ = x at *
  dsimp only at *
  by_cases hx : x = 0
  case neg =>
    have g1 : (x != 0) = true := by simpa using hx
    have HE := Lib.hid (E1.out hx)
    clear hx E1 E2 E3
    go_enter Tryz.func35, Tryz.ntmps35
    go_wp2_with (go_at_call 31; refine (KB.out).mono ?_; rintro e w1 ⟨rfl, hb1⟩; have HW1 := Lib.hid (HW0.out.next hb1); have c0 := HW1.out.q.cell 0; have c1 := HW1.out.q.cell 1; have c2 := HW1.out.q.cell 2; have c3 := HW1.out.q.cell 3; have c4 := HW1.out.q.cell 4; have z0 := HW1.out.q.frozen 0; have z1 := HW1.out.q.frozen 1; have z2 := HW1.out.q.frozen 2; have z3 := HW1.out.q.frozen 3; have z4 := HW1.out.q.frozen 4; simp only [List.getElem?_toArray, List.getElem?_cons_zero, List.getElem?_cons_succ] at c0 c1 c2 c3 c4; clear hb1 r0 r1 r2 r3 r4)
    refine bodyPost_ret (v := .tuple #[.agg #[.slice none 0 0, .slice none 0 0, .int .i64 0, .int .i64 0, .bool false], .int .i64 x]) (by simp [results, Tryz.results35, go_sem, c0, c1, c2, c3, c4]) rfl (runU_err HE.out ?_)
    exact ((((HW1.out.below.setCell hq1 _).setCell hq1 _).setCell hq1 _).setCell hq1 _).setCell hq1 _
  subst hx
  by_cases hrg : n < 0 ∨ 1000 < n
  · have HE := Lib.hid (E2.out rfl hrg)
    clear E1 E2 E3
    have hcs : n < 0 ∨ ¬ n < 0 ∧ 1000 < n := by omega
    clear hrg
    rcases hcs with h1 | ⟨h1, h2⟩
    all_goals
      go_enter Tryz.func35, Tryz.ntmps35
      go_wp2_with (go_at_call 31; refine (KB.out).mono ?_; rintro e w1 ⟨rfl, hb1⟩; have HW1 := Lib.hid (HW0.out.next hb1); have c0 := HW1.out.q.cell 0; have c1 := HW1.out.q.cell 1; have c2 := HW1.out.q.cell 2; have c3 := HW1.out.q.cell 3; have c4 := HW1.out.q.cell 4; have z0 := HW1.out.q.frozen 0; have z1 := HW1.out.q.frozen 1; have z2 := HW1.out.q.frozen 2; have z3 := HW1.out.q.frozen 3; have z4 := HW1.out.q.frozen 4; simp only [List.getElem?_toArray, List.getElem?_cons_zero, List.getElem?_cons_succ] at c0 c1 c2 c3 c4; clear hb1 r0 r1 r2 r3 r4)
      refine bodyPost_ret (v := .tuple #[.agg #[.slice none 0 0, .slice none 0 0, .int .i64 0, .int .i64 0, .bool false], .int .i64 3]) (by simp [results, Tryz.results35, go_sem, c0, c1, c2, c3, c4]) rfl (runU_err HE.out ?_)
      exact ((((HW1.out.below.setCell hq1 _).setCell hq1 _).setCell hq1 _).setCell hq1 _).setCell hq1 _
  obtain ⟨h1, h2⟩ : ¬ n < 0 ∧ ¬ 1000 < n := ⟨fun h => hrg (.inl h), fun h => hrg (.inr h)⟩
  have HE := Lib.hid (E3.out rfl h1 h2)
  clear E1 E2 E3 hrg
  obtain ⟨m, rfl⟩ : ∃ m : Nat, n = m := ⟨n.toNat, by omega⟩
  obtain ⟨hq, hok⟩ := H0.out.1 rfl
  have HOK := Lib.hid hok
  have HGO := Lib.hid (fun cur (h : RunOk st p cur) => step_on hq (strata_count HS.out hq).1 h)
  clear H0 hok hq
  go_enter Tryz.func35, Tryz.ntmps35
  go_wp2_with (go_at_call 31; refine (KB.out).mono ?_; rintro e w1 ⟨rfl, hb1⟩; have HW1 := Lib.hid (HW0.out.next hb1); clear hb1 r0 r1 r2 r3 r4)
  clear hW0 KB HW0
  have HON := Lib.hid (onRunR_start (r := ⟨rk, rn, rs, rr, rd⟩) HW1.out HK0.out HN0.out)
  clear HK0 HN0 HW1
  have HEI := Lib.hid (show stepsRun st q.1 p ⟨rk, rn, rs, rr, rd⟩ (m : Int) = iterP st q.1 p (m - 0) ⟨rk, rn, rs, rr, rd⟩ from HE.out)
  clear HE
  go_loopw [9] (fun i wr => ∃ (j : Nat) (cur : PRun), j ≤ m ∧ i = .int .i64 j ∧ Hid (OnRunR U w wr cur) ∧ Hid (RunSmall cur) ∧ Hid (RunOk st p cur) ∧ Hid (stepsRun st q.1 p ⟨rk, rn, rs, rr, rd⟩ (m : Int) = iterP st q.1 p (m - j) cur)) (fun i _ => m - (intOf i).toNat)
  case atStart => exact ⟨0, ⟨rk, rn, rs, rr, rd⟩, Nat.zero_le _, rfl, HON, NS, HOK, HEI⟩
  case round =>
    clear HON HEI HOK
    obtain ⟨j, ⟨ck, cn, cs, cr, cd⟩, hj, rfl, HO, HNS, HOK, HE⟩ := hrel
    obtain ⟨a5, c5, b5, d5, hw5, hk5, hn5⟩ := HO.out
    have HW5 := Lib.hid hw5
    have HK5 := Lib.hid hk5
    have HN5 := Lib.hid hn5
    clear hw5 hk5 hn5 HO
    have u0 := HW5.out.rb.cell 0; have u1 := HW5.out.rb.cell 1; have u2 := HW5.out.rb.cell 2; have u3 := HW5.out.rb.cell 3; have u4 := HW5.out.rb.cell 4
    have c0 := HW5.out.q.cell 0; have c1 := HW5.out.q.cell 1; have c2 := HW5.out.q.cell 2; have c3 := HW5.out.q.cell 3; have c4 := HW5.out.q.cell 4
    have z0 := HW5.out.q.frozen 0; have z1 := HW5.out.q.frozen 1; have z2 := HW5.out.q.frozen 2; have z3 := HW5.out.q.frozen 3; have z4 := HW5.out.q.frozen 4
    simp only [List.getElem?_toArray, List.getElem?_cons_zero, List.getElem?_cons_succ] at u0 u1 u2 u3 u4 c0 c1 c2 c3 c4
    have hnq : ¬ OffR U w (w.heap.size + 1) := fun h => h.2.2 rfl
    have HEND := Lib.hid (show iterP st q.1 p (m - j) ⟨ck, cn, cs, cr, cd⟩ = (⟨ck, cn, cs, cr, cd⟩, 0) → RunU U (stepsRun st q.1 p ⟨rk, rn, rs, rr, rd⟩ (m : Int)) w (.returned (.tuple #[.agg #[.slice a5 ck.length c5, .slice b5 cn.length d5, .int .i64 cs, .int .i64 cr, .bool cd], .int .i64 0])) (((((wr.setCell ⟨w.heap.size + 1, 0, none⟩ (.slice a5 ck.length c5)).setCell ⟨w.heap.size + 1, 1, none⟩ (.slice b5 cn.length d5)).setCell ⟨w.heap.size + 1, 2, none⟩ (.int .i64 cs)).setCell ⟨w.heap.size + 1, 3, none⟩ (.int .i64 cr)).setCell ⟨w.heap.size + 1, 4, none⟩ (.bool cd)) from fun he => by
      refine runU_ok (HE.out.trans he) ?_ ?_ ?_
      · exact ((((HW5.out.below.setCell hq1 _).setCell hq1 _).setCell hq1 _).setCell hq1 _).setCell hq1 _
      · exact (RdFacts.set_far (RdFacts.set_far (RdFacts.set_far (RdFacts.set_far (RdFacts.set_far HK5.out hnq _) hnq _) hnq _) hnq _) hnq _).more RFact.steady (fun _ hb _ => hb.1)
      · exact (RdFacts.set_far (RdFacts.set_far (RdFacts.set_far (RdFacts.set_far (RdFacts.set_far HN5.out hnq _) hnq _) hnq _) hnq _) hnq _).more RFact.steady (fun _ hb _ => hb.1))
    by_cases hlt : j < m
    · obtain ⟨l, hl⟩ : ∃ l, m - j = l + 1 := ⟨m - j - 1, by omega⟩
      have HL := Lib.hid (show m - (j + 1) = l by omega)
      rw [hl] at HE HEND
      clear hl
      cases cd
      case true =>
        have HP := Lib.hid (HEND.out (iter_done rfl))
        clear HEND HE
        go_wp2
        refine bodyPost_ret (v := .tuple #[.agg #[.slice a5 ck.length c5, .slice b5 cn.length d5, .int .i64 cs, .int .i64 cr, .bool true], .int .i64 0]) (by simp [results, Tryz.results35, go_sem, c0, c1, c2, c3, c4]) rfl HP.out
      have KP := Lib.hid (stepRefU (U := OffR U w) p (.slice a p.length c) st q ⟨ck, cn, cs, cr, false⟩ (.slice a5 ck.length c5) (.slice b5 cn.length d5) wr HS.out (H.out.up HW5.out.below) ⟨HK5.out.any, HN5.out.any⟩ HK5.out HN5.out n1 N2.out N3.out HNS.out (good_smallF HOK.out.known.fine) (good_smallF HOK.out.new.fine))
      have HG := Lib.hid (HGO.out _ HOK.out)
      have HSM := Lib.hid (step_small (st := st) (q := q) (p := p) N2.out HNS.out)
      have I1 := Lib.hid (fun he => HE.out.trans (iter_err rfl he))
      have I2 := Lib.hid (fun he => HE.out.trans (iter_next rfl he))
      clear HE HEND
      generalize stepRun st q.1 p ⟨ck, cn, cs, cr, false⟩ = x at *
      obtain ⟨⟨dk, dn, ds, dr, dd⟩, er⟩ := x
      dsimp only at *
      by_cases he : er = 0
      case neg =>
        have g2 : (er != 0) = true := by simpa using he
        have HEE := Lib.hid (I1.out he)
        clear he I1 I2
        go_wp2_with (go_at_call 33; refine (KP.out).mono ?_; rintro e w6 ⟨hb6, a6, c6, b6, d6, rfl, hk6, hn6⟩; have HW6 := Lib.hid ((HW5.out.next hb6).alloc (.cells #[.slice a6 dk.length c6, .slice b6 dn.length d6, .int .i64 ds, .int .i64 dr, .bool dd] 47)); have l0 := HW6.out.q.cell 0; have l1 := HW6.out.q.cell 1; have l2 := HW6.out.q.cell 2; have l3 := HW6.out.q.cell 3; have l4 := HW6.out.q.cell 4; have y0 := HW6.out.q.frozen 0; have y1 := HW6.out.q.frozen 1; have y2 := HW6.out.q.frozen 2; have y3 := HW6.out.q.frozen 3; have y4 := HW6.out.q.frozen 4; simp only [List.getElem?_toArray, List.getElem?_cons_zero, List.getElem?_cons_succ] at l0 l1 l2 l3 l4; clear hb6 hk6 hn6 u0 u1 u2 u3 u4 c0 c1 c2 c3 c4 z0 z1 z2 z3 z4)
        refine bodyPost_ret (v := .tuple #[.agg #[.slice none 0 0, .slice none 0 0, .int .i64 0, .int .i64 0, .bool false], .int .i64 er]) (by simp [results, Tryz.results35, go_sem, l0, l1, l2, l3, l4]) rfl (runU_err HEE.out ?_)
        exact ((((HW6.out.below.setCell hq1 _).setCell hq1 _).setCell hq1 _).setCell hq1 _).setCell hq1 _
      subst he
      have HEE := Lib.hid (show stepsRun st q.1 p ⟨rk, rn, rs, rr, rd⟩ (m : Int) = iterP st q.1 p (m - (j + 1)) ⟨dk, dn, ds, dr, dd⟩ by rw [HL.out]; exact I2.out rfl)
      have HG2 := Lib.hid (HG.out rfl)
      clear I1 I2
      go_wp2_with (go_at_call 33; refine (KP.out).mono ?_; rintro e w6 ⟨hb6, a6, c6, b6, d6, rfl, hk6, hn6⟩; have hw6 := (HW5.out.next hb6).alloc (.cells #[.slice a6 dk.length c6, .slice b6 dn.length d6, .int .i64 ds, .int .i64 dr, .bool dd] 47); have hw5l := HW5.out.lt; have hk7 : RdFacts (OffR U w) (w6.alloc (.cells #[.slice a6 dk.length c6, .slice b6 dn.length d6, .int .i64 ds, .int .i64 dr, .bool dd] 47)) (.slice a6 dk.length c6) dk := (RdSlice.agree RFact.steady ((Agree.refl _ _).alloc _) hk6).more RFact.steady (fun b hb _ => hb.elim id (fun h => ⟨.inr (by omega), by omega, by omega⟩)); have hn7 : RdFacts (OffR U w) (w6.alloc (.cells #[.slice a6 dk.length c6, .slice b6 dn.length d6, .int .i64 ds, .int .i64 dr, .bool dd] 47)) (.slice b6 dn.length d6) dn := (RdSlice.agree RFact.steady ((Agree.refl _ _).alloc _) hn6).more RFact.steady (fun b hb _ => hb.elim id (fun h => ⟨.inr (by omega), by omega, by omega⟩)); have HON := Lib.hid (onRunR_store (r := ⟨dk, dn, ds, dr, dd⟩) hw6 hk7 hn7); have l0 := hw6.rb.cell 0; have l1 := hw6.rb.cell 1; have l2 := hw6.rb.cell 2; have l3 := hw6.rb.cell 3; have l4 := hw6.rb.cell 4; have y0 := hw6.rb.frozen 0; have y1 := hw6.rb.frozen 1; have y2 := hw6.rb.frozen 2; have y3 := hw6.rb.frozen 3; have y4 := hw6.rb.frozen 4; simp only [List.getElem?_toArray, List.getElem?_cons_zero, List.getElem?_cons_succ] at l0 l1 l2 l3 l4; clear hb6 hk6 hn6 hw6 hk7 hn7 u0 u1 u2 u3 u4 c0 c1 c2 c3 c4 z0 z1 z2 z3 z4)
      go_roundw
      case rel => exact ⟨j + 1, ⟨dk, dn, ds, dr, dd⟩, by omega, by go_num, HON, HSM, HG2, HEE⟩
      case measure => simp [intOf]; omega
    · have HP := Lib.hid (HEND.out (by rw [show m - j = 0 by omega]; rfl))
      clear HEND HE
      go_wp2
      refine bodyPost_ret (v := .tuple #[.agg #[.slice a5 ck.length c5, .slice b5 cn.length d5, .int .i64 cs, .int .i64 cr, .bool cd], .int .i64 0]) (by simp [results, Tryz.results35, go_sem, c0, c1, c2, c3, c4]) rfl HP.out
end Go.Proofs.YtbbiapgkcekabaaGreat

/-
  THE ENTRY OF A RUN: from the row's reading of an argument of type api.Run to RunRd.
-/
namespace Go.Proofs.YtbbiapgkcekabaaGreat
open Go.RowKit Go.ChangeShapes Go.WideShapes Go.Deep

theorem trod_struct5 {H : Type} {enc : TypeId × Value → H} {P : Program} {w : World} {base : Nat} {spare : Nat → Bool} {held : Bool} {t : TypeId} {f0 f1 f2 f3 f4 : Field} {fuel : Nat} {cs : List Value} {x : DataW H × List MemPlace} (ht : P.underlying t = some (.struct #[f0, f1, f2, f3, f4])) (h : DataW.trod enc P w base spare held fuel t cs = some x) :
    ∃ y0 y1 y2 y3 y4 n, x = (.agg [y0.1, y1.1, y2.1, y3.1, y4.1], y0.2 ++ (y1.2 ++ (y2.2 ++ (y3.2 ++ y4.2)))) ∧ cs.length = P.cellsOf t ∧ DataW.trod enc P w base spare held n f0.type ((cs.drop f0.offset).take (P.cellsOf f0.type)) = some y0 ∧
      DataW.trod enc P w base spare held n f1.type ((cs.drop f1.offset).take (P.cellsOf f1.type)) = some y1 ∧ DataW.trod enc P w base spare held n f2.type ((cs.drop f2.offset).take (P.cellsOf f2.type)) = some y2 ∧
      DataW.trod enc P w base spare held n f3.type ((cs.drop f3.offset).take (P.cellsOf f3.type)) = some y3 ∧ DataW.trod enc P w base spare held n f4.type ((cs.drop f4.offset).take (P.cellsOf f4.type)) = some y4 := by
  obtain ⟨xs, n, _, rfl, hl, hlen, hf⟩ := DataW.trod_struct ht h
  match xs, hlen with
  | [y0, y1, y2, y3, y4], _ => exact ⟨y0, y1, y2, y3, y4, n, by simp, hl, by simpa using hf 0 f0 rfl, by simpa using hf 1 f1 rfl, by simpa using hf 2 f2 rfl, by simpa using hf 3 f3 rfl, by simpa using hf 4 f4 rfl⟩
theorem list5 {l : List Value} (h : l.length = 5) : ∃ a b c d e, l = [a, b, c, d, e] := match l, h with | [a, b, c, d, e], _ => ⟨a, b, c, d, e, rfl⟩
def sizeRun (r : PRun) : Nat := 1 + sizeL sizeFact r.known + sizeL sizeFact r.new
def RRun : Reader PRun := fun S w cs r => ∃ kv nv, cs = [kv, nv, .int .i64 r.stratum, .int .i64 r.rounds, .bool r.done] ∧ RdFacts S w kv r.known ∧ RdFacts S w nv r.new
theorem openRun : Opens Tryz.prog 47 5 RRun sizeRun where
  cells := by kernel_rfl
  pos := by omega
  one _ := by simp only [sizeRun]; omega
  opn {H enc w n cs x} h := by
    obtain ⟨y0, y1, y2, y3, y4, n, rfl, hl, h0, h1, h2, h3, h4⟩ := trod_struct5 Tryz.underlying47 h
    rw [show Tryz.prog.cellsOf 47 = 5 by kernel_rfl] at hl
    obtain ⟨c0, c1, c2, c3, c4, rfl⟩ := list5 hl
    rw [show Tryz.prog.cellsOf 24 = 1 by kernel_rfl] at h0 h1
    rw [show Tryz.prog.cellsOf 3 = 1 by kernel_rfl] at h2 h3
    rw [show Tryz.prog.cellsOf 4 = 1 by kernel_rfl] at h4
    obtain ⟨v0, l0, e0, r0, b0⟩ := openFact.slice Tryz.underlying24 h0
    obtain ⟨v1, l1, e1, r1, b1⟩ := openFact.slice Tryz.underlying24 h1
    obtain ⟨s, e2, b2⟩ := openInt.opn h2
    obtain ⟨x, e3, b3⟩ := openInt.opn h3
    obtain ⟨d, e4, rfl⟩ := DataW.trod_bool Tryz.underlying4 h4
    obtain rfl : c0 = v0 := by simpa using e0
    obtain rfl : c1 = v1 := by simpa using e1
    obtain rfl : c2 = .int .i64 s := by simpa [RInt] using e2
    obtain rfl : c3 = .int .i64 x := by simpa [RInt] using e3
    obtain rfl : c4 = .bool d := by simpa using e4
    exact ⟨⟨l0, l1, s, x, d⟩, ⟨_, _, rfl, r0, r1⟩, by simp only [sizeRun, Rows.uptoBulk, Rows.uptoBulkAll]; omega⟩
theorem Opens.runArg {P : Program} {t : TypeId} {size : PRun → Nat} (h : Opens P t 5 RRun size) {fs : Array Field} (ht : P.underlying t = some (.struct fs)) {H : Type} {enc : TypeId × Value → H} {W : World} {r : Reach} {b : Nat} {v : Value} {d : DataW H} {p : List MemPlace}
    (hv : Value.okWide P W r b t v) (hd : DataW.Trod enc P W 0 (fun _ => true) true t v d p) : ∃ (x : PRun) (kv nv : Value), v = .agg #[kv, nv, .int .i64 x.stratum, .int .i64 x.rounds, .bool x.done] ∧ RunRd W x kv nv ∧ size x ≤ Rows.uptoBulk d := by
  obtain ⟨f, cs, rfl, ⟨kv, nv, e, h1, h2⟩, hb⟩ := h.arg ht hv hd
  exact ⟨f, kv, nv, by rw [← Array.toArray_toList (xs := cs), e], ⟨h1, h2⟩, hb⟩
end Go.Proofs.YtbbiapgkcekabaaGreat

/-
  WHAT A CALL MAKES OF A RUN, its answers being known.
-/
namespace Go.Proofs.YtbbiapgkcekabaaGreat
open Go.RowKit

theorem zero_small : RunSmall zeroRun := ⟨by simp [zeroRun], by simp [zeroRun], by simp [zeroRun], by simp [zeroRun]⟩
theorem begin_small {st : List Int} {q : Int} {p : List PRule} {l : List PFact} (n4 : l.length ≤ 1048576) (n5 : ∀ x ∈ l, x.args.length ≤ 1048576) : RunSmall (beginP st q p l).1 := by
  unfold beginP
  split
  · exact zero_small
  split
  · exact zero_small
  · exact ⟨n4, n5, n4, n5⟩
/-- A run that a call made, in a block of its own. -/
structure RunIn (w W : World) (b : Nat) (kv nv : Value) (r : PRun) : Prop where
  below : Below w.heap.size w W
  old : w.heap.size ≤ b
  blk : Blk W b 47 #[kv, nv, .int .i64 r.stratum, .int .i64 r.rounds, .bool r.done]
  rd : RunRd W r kv nv
theorem RunIn.next {w W W' : World} {b : Nat} {kv nv : Value} {r : PRun} (h : RunIn w W b kv nv r) (hb : Below W.heap.size W W') : RunIn w W' b kv nv r :=
  ⟨h.below.trans (hb.mono (Below.size h.below)), h.old, h.blk.below hb h.blk.lt, h.rd.up hb⟩
theorem RunIn.alloc {w W : World} {b : Nat} {kv nv : Value} {r : PRun} (h : RunIn w W b kv nv r) (o : Obj) : RunIn w (W.alloc o) b kv nv r := h.next ((Below.refl _ _).alloc (Nat.le_refl _) o)
/-- Another run in its place. -/
theorem RunIn.store {w W : World} {b : Nat} {kv nv ev mv : Value} {r x : PRun} {w0 : World} (h : RunIn w W b kv nv r) (hb : b < w0.heap.size) (hk : RdFacts (New w0) W ev x.known) (hn : RdFacts (New w0) W mv x.new) :
    RunIn w (((((W.setCell ⟨b, 0, none⟩ ev).setCell ⟨b, 1, none⟩ mv).setCell ⟨b, 2, none⟩ (.int .i64 x.stratum)).setCell ⟨b, 3, none⟩ (.int .i64 x.rounds)).setCell ⟨b, 4, none⟩ (.bool x.done)) b ev mv x := by
  have ho := h.old
  have hnw : ¬ New w0 b := fun h => by have h' : w0.heap.size ≤ b := h; omega
  exact ⟨((((h.below.setCell ho _).setCell ho _).setCell ho _).setCell ho _).setCell ho _, ho,
    ((((h.blk.set_ 0 _).set_ 1 _).set_ 2 _).set_ 3 _).set_ 4 _,
    ⟨(RdFacts.set_far (RdFacts.set_far (RdFacts.set_far (RdFacts.set_far (RdFacts.set_far hk hnw _) hnw _) hnw _) hnw _) hnw _).any, (RdFacts.set_far (RdFacts.set_far (RdFacts.set_far (RdFacts.set_far (RdFacts.set_far hn hnw _) hnw _) hnw _) hnw _) hnw _).any⟩⟩
end Go.Proofs.YtbbiapgkcekabaaGreat

/-
  THE WALKS OF round.All, and of cororef4.SameRun at runs that are the same.
-/
namespace Go.Proofs.YtbbiapgkcekabaaGreat
open Go.RowKit

theorem sameRefl {S T : Nat → Prop} {va vb : Value} {a : List PFact} {w : World} (ha : RdFacts S w va a) (hb : RdFacts T w vb a) (n1 : a.length ≤ 1048576) (n2 : ∀ x ∈ a, x.args.length ≤ 1048576) :
    Calls Tryz.prog 19 #[va, vb] w fun e w' => e = .returned (.bool true) ∧ Below w.heap.size w w' :=
  (sameRef va vb a a w ha hb (by omega) (fun x hx => by have := n2 x hx; omega) (fun x hx => by have := n2 x hx; omega)).mono fun e w' ⟨he, hf⟩ => ⟨by rw [he, decide_eq_true rfl], hf.below⟩
set_option maxRecDepth 100000 in
set_option maxHeartbeats 4000000 in
theorem sameRunRefl (r : PRun) (kv nv kv' nv' : Value) (w : World) (h1 : RunRd w r kv nv) (h2 : RunRd w r kv' nv') (ns : RunSmall r) :
    Calls Tryz.prog 29 #[.agg #[kv, nv, .int .i64 r.stratum, .int .i64 r.rounds, .bool r.done], .agg #[kv', nv', .int .i64 r.stratum, .int .i64 r.rounds, .bool r.done]] w fun e w' => e = .returned (.bool true) ∧ Below w.heap.size w w' := by
  obtain ⟨rk, rn, rs, rr, rd⟩ := r
  have hb0 : Below w.heap.size w ((w.alloc (.cells #[kv, nv, .int .i64 rs, .int .i64 rr, .bool rd] 47)).alloc (.cells #[kv', nv', .int .i64 rs, .int .i64 rr, .bool rd] 47)) := ((Below.refl _ _).alloc (Nat.le_refl _) _).alloc (by simp) _
  have HB0 := Lib.hid hb0
  have hq1 := (Blk.new w 47 #[kv, nv, .int .i64 rs, .int .i64 rr, .bool rd]).alloc (.cells #[kv', nv', .int .i64 rs, .int .i64 rr, .bool rd] 47)
  have hq2 := Blk.at_ (w := w.alloc (.cells #[kv, nv, .int .i64 rs, .int .i64 rr, .bool rd] 47)) (t := 47) (cs := #[kv', nv', .int .i64 rs, .int .i64 rr, .bool rd]) (n := w.heap.size + 1) (by simp)
  have KS1 := Lib.hid (sameRefl (h1.known.up hb0) (h2.known.up hb0) ns.k1 ns.k2)
  have KS2 := Lib.hid (fun W (hW : Below w.heap.size w W) => sameRefl (h1.new.up hW) (h2.new.up hW) ns.n1 ns.n2)
  have HQ1 := Lib.hid hq1
  have HQ2 := Lib.hid hq2
  clear h1 h2 ns hb0 hq1 hq2
  go_enter Tryz.func29, Tryz.ntmps29
  have c0 := HQ1.out.cell 0; have c1 := HQ1.out.cell 1; have c2 := HQ1.out.cell 2; have c3 := HQ1.out.cell 3; have c4 := HQ1.out.cell 4
  have k0 := HQ2.out.cell 0; have k1 := HQ2.out.cell 1; have k2 := HQ2.out.cell 2; have k3 := HQ2.out.cell 3; have k4 := HQ2.out.cell 4
  simp only [List.getElem?_toArray, List.getElem?_cons_zero, List.getElem?_cons_succ] at c0 c1 c2 c3 c4 k0 k1 k2 k3 k4
  go_wp2_with (first
    | (go_at_call 19; have hh := HB2.out; clear hh; refine (KS2.out _ HB2.out).mono ?_; rintro e w3 ⟨rfl, hb3⟩; have HB3 := Lib.hid (HB2.out.trans (hb3.mono (Below.size HB2.out))); have HX3 := Lib.hid (HX2.out.below hb3 HX2.out.lt); have HY3 := Lib.hid (HY2.out.below hb3 HY2.out.lt); have m0 := HX3.out.cell 0; have m1 := HX3.out.cell 1; have m2 := HX3.out.cell 2; have m3 := HX3.out.cell 3; have m4 := HX3.out.cell 4; have n0 := HY3.out.cell 0; have n1 := HY3.out.cell 1; have n2 := HY3.out.cell 2; have n3 := HY3.out.cell 3; have n4 := HY3.out.cell 4; simp only [List.getElem?_toArray, List.getElem?_cons_zero, List.getElem?_cons_succ] at m0 m1 m2 m3 m4 n0 n1 n2 n3 n4; clear hb3)
    | (go_at_call 19; refine (KS1.out).mono ?_; rintro e w2 ⟨rfl, hb2⟩; have HB2 := Lib.hid (HB0.out.trans (hb2.mono (Below.size HB0.out))); have HX2 := Lib.hid (HQ1.out.below hb2 HQ1.out.lt); have HY2 := Lib.hid (HQ2.out.below hb2 HQ2.out.lt); have i0 := HX2.out.cell 0; have i1 := HX2.out.cell 1; have i2 := HX2.out.cell 2; have i3 := HX2.out.cell 3; have i4 := HX2.out.cell 4; have j0 := HY2.out.cell 0; have j1 := HY2.out.cell 1; have j2 := HY2.out.cell 2; have j3 := HY2.out.cell 3; have j4 := HY2.out.cell 4; simp only [List.getElem?_toArray, List.getElem?_cons_zero, List.getElem?_cons_succ] at i0 i1 i2 i3 i4 j0 j1 j2 j3 j4; clear hb2 c0 c1 c2 c3 c4 k0 k1 k2 k3 k4))
  go_ret
  exact ⟨ret_bool (by simp), HB3.out⟩
end Go.Proofs.YtbbiapgkcekabaaGreat
