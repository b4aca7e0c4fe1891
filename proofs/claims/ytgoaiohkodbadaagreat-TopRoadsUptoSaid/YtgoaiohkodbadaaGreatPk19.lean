/-
  THE TEXTS RoundW5, RunK, Ref1Less, Ref1Same, RoundW6, one behind the other.
-/
import Derived.Test.YtgoaiohkodbadaaGreatPk3
import Derived.Test.YtgoaiohkodbadaaGreatPk5
import Derived.Test.YtgoaiohkodbadaaGreatPk17
import Derived.Test.YtgoaiohkodbadaaGreatPk18
/-
  THE WALKS OF round.Steps, All.
-/
namespace Go.Proofs.YtgoaiohkodbadaaGreat
open Go.RowKit

theorem steps_bad {st : List Int} {q : Int} {p : List PRule} {r : PRun} {n : Int} (h : runBad st q p r ≠ 0) : stepsRun st q p r n = (zeroRun, runBad st q p r) := by unfold stepsRun; rw [if_pos h]
theorem steps_range {st : List Int} {q : Int} {p : List PRule} {r : PRun} {n : Int} (h : runBad st q p r = 0) (hn : n < 0 ∨ 1000 < n) : stepsRun st q p r n = (zeroRun, 3) := by unfold stepsRun; rw [if_neg (by simpa using h), if_pos hn]
theorem steps_iter {st : List Int} {q : Int} {p : List PRule} {r : PRun} {n : Int} (h : runBad st q p r = 0) (h1 : ¬ n < 0) (h2 : ¬ 1000 < n) : stepsRun st q p r n = iterP st q p n.toNat r := by
  unfold stepsRun; rw [if_neg (by simpa using h), if_neg (fun e => e.elim h1 h2)]
theorem iter_done {st : List Int} {q : Int} {p : List PRule} {r : PRun} {k : Nat} (h : r.done = true) : iterP st q p (k + 1) r = (r, 0) := by rw [iterP, if_pos h]
theorem iter_err {st : List Int} {q : Int} {p : List PRule} {r : PRun} {k : Nat} (h : r.done = false) (he : (stepRun st q p r).2 ≠ 0) : iterP st q p (k + 1) r = (zeroRun, (stepRun st q p r).2) := by rw [iterP, if_neg (by simp [h]), if_pos he]
theorem iter_next {st : List Int} {q : Int} {p : List PRule} {r : PRun} {k : Nat} (h : r.done = false) (he : (stepRun st q p r).2 = 0) : iterP st q p (k + 1) r = iterP st q p k (stepRun st q p r).1 := by rw [iterP, if_neg (by simp [h]), if_neg (by simpa using he)]
/-- What a step makes is small. -/
theorem make_args {s : Int} {K N : List PFact} {m : Nat} : ∀ {ps : List (PRule × Int)} {o : List PFact}, (∀ r t, (r, t) ∈ ps → r.head.terms.length ≤ m) → (∀ z ∈ o, z.args.length ≤ m) → ∀ z ∈ (makeP s K N ps o).1, z.args.length ≤ m
  | [], o, _, ho, z, hz => ho z hz
  | (r, t) :: ps, o, hp, ho, z, hz => by
    have hp' : ∀ r t, (r, t) ∈ ps → r.head.terms.length ≤ m := fun r t h => hp r t (List.mem_cons_of_mem _ h)
    rw [makeP] at hz
    split at hz
    · exact make_args hp' ho z hz
    · split at hz
      · simp at hz
      · exact make_args hp' (fun y hy => (List.mem_append.1 hy).elim (ho y) fun h => by rw [newHeads_args y h]; exact hp r t (by simp)) z hz
theorem step_small {st : List Int} {q : Int × Int} {p : List PRule} {r : PRun} (n2 : ∀ r ∈ p, RuleSmall r) (ns : RunSmall r) : RunSmall (stepRun st q.1 p r).1 := by
  have hz : RunSmall zeroRun := ⟨by simp [zeroRun], by simp [zeroRun], by simp [zeroRun], by simp [zeroRun]⟩
  unfold stepRun
  split
  · exact hz
  unfold goodStep
  split
  · exact ns
  split
  · exact hz
  split
  · exact hz
  split
  · exact hz
  rename_i hl
  have hm : ∀ z ∈ (makeP r.stratum r.known r.new (p.zip st) []).1, z.args.length ≤ 1048576 := make_args (fun r t h => (n2 r (List.of_mem_zip h).1).h1) (by simp)
  generalize (makeP r.stratum r.known r.new (p.zip st) []).1 = o at *
  have h1 : ∀ z ∈ lessF (ofF o) r.known, z.args.length ≤ 1048576 := fun z hz => hm z ((mem_ofF z o).1 (List.mem_filter.1 hz).1)
  have h2 : ∀ z ∈ joinF r.known (lessF (ofF o) r.known), z.args.length ≤ 1048576 := fun z hz => ((mem_joinF _ _ z).1 hz).elim (ns.k2 z) (h1 z)
  have h3 : (lessF (ofF o) r.known).length ≤ (joinF r.known (lessF (ofF o) r.known)).length := rising_sub_le (List.Pairwise.sublist List.filter_sublist (ofF_rising o)) fun z hz => (mem_joinF _ _ z).2 (.inr hz)
  have hl' : (joinF r.known (lessF (ofF o) r.known)).length ≤ 200 := by
    have := hl
    omega
  unfold nextRun
  split
  · exact ⟨by show (joinF r.known (lessF (ofF o) r.known)).length ≤ _; omega, h2, by show (joinF r.known (lessF (ofF o) r.known)).length ≤ _; omega, h2⟩
  · exact ⟨by show (joinF r.known (lessF (ofF o) r.known)).length ≤ _; omega, h2, by show (lessF (ofF o) r.known).length ≤ _; omega, h1⟩

/-- A run that a call works on: its cells, and the result's. -/
def OnRun (w W : World) (r : PRun) : Prop := ∃ a c b d, SpW w W (.slice a r.known.length c) (.slice b r.new.length d) r.stratum r.rounds r.done ∧
  RdFacts (fun q => w.heap.size + 2 ≤ q) W (.slice a r.known.length c) r.known ∧ RdFacts (fun q => w.heap.size + 2 ≤ q) W (.slice b r.new.length d) r.new

theorem onRun_own {w W : World} {r : PRun} {kv nv : Value} {a b : Option Addr} {c d : Nat} (h : SpW w W kv nv r.stratum r.rounds r.done) (h1 : RdFacts (fun q => w.heap.size + 2 ≤ q) W (.slice a r.known.length c) r.known) (h2 : RdFacts (fun q => w.heap.size + 2 ≤ q) W (.slice b r.new.length d) r.new) :
    OnRun w ((W.setCell ⟨w.heap.size, 0, none⟩ (.slice a r.known.length c)).setCell ⟨w.heap.size, 1, none⟩ (.slice b r.new.length d)) r := by
  have hx : ¬ (fun q => w.heap.size + 2 ≤ q) w.heap.size := fun h => by have h' : w.heap.size + 2 ≤ w.heap.size := h; omega
  have hn : w.heap.size + 1 ≠ w.heap.size := by omega
  exact ⟨a, c, b, d, ⟨(h.below.setCell (Nat.le_refl _) _).setCell (Nat.le_refl _) _, (h.rb.set_ 0 (.slice a r.known.length c)).set_ 1 (.slice b r.new.length d), (h.q.far (p := ⟨w.heap.size, 0, none⟩) hn _).far (p := ⟨w.heap.size, 1, none⟩) hn _⟩,
    RdFacts.set_far (RdFacts.set_far h1 hx _) hx _, RdFacts.set_far (RdFacts.set_far h2 hx _) hx _⟩
theorem onRun_store {w W : World} {kv nv : Value} {s x : Int} {dn : Bool} {r : PRun} {a b : Option Addr} {c d : Nat} (h : SpW w W kv nv s x dn) (h1 : RdFacts (fun q => w.heap.size + 2 ≤ q) W (.slice a r.known.length c) r.known) (h2 : RdFacts (fun q => w.heap.size + 2 ≤ q) W (.slice b r.new.length d) r.new) :
    OnRun w (((((W.setCell ⟨w.heap.size, 0, none⟩ (.slice a r.known.length c)).setCell ⟨w.heap.size, 1, none⟩ (.slice b r.new.length d)).setCell ⟨w.heap.size, 2, none⟩ (.int .i64 r.stratum)).setCell ⟨w.heap.size, 3, none⟩ (.int .i64 r.rounds)).setCell ⟨w.heap.size, 4, none⟩ (.bool r.done)) r := by
  have hx : ¬ (fun q => w.heap.size + 2 ≤ q) w.heap.size := fun h => by have h' : w.heap.size + 2 ≤ w.heap.size := h; omega
  have hn : w.heap.size + 1 ≠ w.heap.size := by omega
  refine ⟨a, c, b, d, ⟨?_, ?_, ?_⟩, ?_, ?_⟩
  · exact ((((h.below.setCell (Nat.le_refl _) _).setCell (Nat.le_refl _) _).setCell (Nat.le_refl _) _).setCell (Nat.le_refl _) _).setCell (Nat.le_refl _) _
  · exact ((((h.rb.set_ 0 (.slice a r.known.length c)).set_ 1 (.slice b r.new.length d)).set_ 2 (.int .i64 r.stratum)).set_ 3 (.int .i64 r.rounds)).set_ 4 (.bool r.done)
  · exact ((((h.q.far (p := ⟨w.heap.size, 0, none⟩) hn _).far (p := ⟨w.heap.size, 1, none⟩) hn _).far (p := ⟨w.heap.size, 2, none⟩) hn _).far (p := ⟨w.heap.size, 3, none⟩) hn _).far (p := ⟨w.heap.size, 4, none⟩) hn _
  · exact RdFacts.set_far (RdFacts.set_far (RdFacts.set_far (RdFacts.set_far (RdFacts.set_far h1 hx _) hx _) hx _) hx _) hx _
  · exact RdFacts.set_far (RdFacts.set_far (RdFacts.set_far (RdFacts.set_far (RdFacts.set_far h2 hx _) hx _) hx _) hx _) hx _

attribute [local go_sem ↓] Go.wp_at_zero Go.wp_at_succ
set_option maxRecDepth 100000 in
set_option maxHeartbeats 16000000 in
theorem stepsRunCalls {S : Nat → Prop} (p : List PRule) (v : Value) (st : List Int) (q : Int × Int) (r : PRun) (kv nv : Value) (n : Int) (w : World) (hS : StrataIs p st q) (h : RdRules S w v p) (hr : RunRd w r kv nv)
    (n1 : p.length ≤ 1048576) (n2 : ∀ r ∈ p, RuleSmall r) (n3 : ∀ r ∈ p, NameSmall r) (ns : RunSmall r) :
    Calls Tryz.prog 37 #[v, .agg #[kv, nv, .int .i64 r.stratum, .int .i64 r.rounds, .bool r.done], .int .i64 n] w (RunPost (stepsRun st q.1 p r n) w) := by
  obtain ⟨rk, rn, rs, rr, rd⟩ := r
  obtain ⟨a, c, rfl, -, -, -⟩ := id h.form
  obtain ⟨ka, kc, rfl, -, -, -⟩ := id hr.known.form
  obtain ⟨na, nc, rfl, -, -, -⟩ := id hr.new.form
  obtain ⟨W0, hW0⟩ : ∃ W0 : World, (w.alloc (.cells #[.slice ka rk.length kc, .slice na rn.length nc, .int .i64 rs, .int .i64 rr, .bool rd] 40)).alloc (.cells #[.slice none 0 0, .slice none 0 0, .int .i64 0, .int .i64 0, .bool false] 40) = W0 := ⟨_, rfl⟩
  have hw0 : SpW w W0 (.slice ka rk.length kc) (.slice na rn.length nc) rs rr rd := by
    subst hW0
    exact ⟨((Below.refl _ _).alloc (Nat.le_refl _) _).alloc (by simp) _, (Blk.new w _ _).alloc _, heap_new_at (by simp)⟩
  have HW0 := Lib.hid hw0
  have H := Lib.hid h
  have HR := Lib.hid hr
  have N2 := Lib.hid n2
  have N3 := Lib.hid n3
  have NS := Lib.hid ns
  have HS := Lib.hid hS
  have KB := Lib.hid (runWrongCalls p _ st q ⟨rk, rn, rs, rr, rd⟩ (.slice ka rk.length kc) (.slice na rn.length nc) W0 hS (h.up hw0.below) (hr.up hw0.below) n1 n2 n3 ns)
  clear h hr n2 n3 ns hw0 hS
  have r0 := HW0.out.rb.cell 0; have r1 := HW0.out.rb.cell 1; have r2 := HW0.out.rb.cell 2; have r3 := HW0.out.rb.cell 3; have r4 := HW0.out.rb.cell 4
  simp only [List.getElem?_toArray, List.getElem?_cons_zero, List.getElem?_cons_succ] at r0 r1 r2 r3 r4
  have hq1 : w.heap.size ≤ w.heap.size + 1 := Nat.le_succ _
  have E1 := Lib.hid (steps_bad (st := st) (q := q.1) (p := p) (r := ⟨rk, rn, rs, rr, rd⟩) (n := n))
  have E2 := Lib.hid (steps_range (st := st) (q := q.1) (p := p) (r := ⟨rk, rn, rs, rr, rd⟩) (n := n))
  have E3 := Lib.hid (steps_iter (st := st) (q := q.1) (p := p) (r := ⟨rk, rn, rs, rr, rd⟩) (n := n))
  generalize runBad st q.1 p ⟨rk, rn, rs, rr, rd⟩ = x at *
  dsimp only at *
  by_cases hx : x = 0
  case neg =>
    have g1 : (x != 0) = true := by simpa using hx
    have HE := Lib.hid (E1.out hx)
    clear hx E1 E2 E3
    go_enter Tryz.func37, Tryz.ntmps37
    go_wp2_with (go_at_call 64; refine (KB.out).mono ?_; rintro e w1 ⟨rfl, hb1⟩; have HW1 := Lib.hid (HW0.out.next hb1); have c0 := HW1.out.q.cell 0; have c1 := HW1.out.q.cell 1; have c2 := HW1.out.q.cell 2; have c3 := HW1.out.q.cell 3; have c4 := HW1.out.q.cell 4; have z0 := HW1.out.q.frozen 0; have z1 := HW1.out.q.frozen 1; have z2 := HW1.out.q.frozen 2; have z3 := HW1.out.q.frozen 3; have z4 := HW1.out.q.frozen 4; simp only [List.getElem?_toArray, List.getElem?_cons_zero, List.getElem?_cons_succ] at c0 c1 c2 c3 c4; clear hb1 r0 r1 r2 r3 r4)
    refine bodyPost_ret (v := .tuple #[.agg #[.slice none 0 0, .slice none 0 0, .int .i64 0, .int .i64 0, .bool false], .int .i64 x]) (by simp [results, Tryz.results37, go_sem, c0, c1, c2, c3, c4]) rfl (run_ret_err HE.out ?_)
    exact ((((HW1.out.below.setCell hq1 _).setCell hq1 _).setCell hq1 _).setCell hq1 _).setCell hq1 _
  subst hx
  by_cases hrg : n < 0 ∨ 1000 < n
  · have HE := Lib.hid (E2.out rfl hrg)
    clear E1 E2 E3
    have hcs : n < 0 ∨ ¬ n < 0 ∧ 1000 < n := by omega
    clear hrg
    rcases hcs with h1 | ⟨h1, h2⟩
    all_goals
      go_enter Tryz.func37, Tryz.ntmps37
      go_wp2_with (go_at_call 64; refine (KB.out).mono ?_; rintro e w1 ⟨rfl, hb1⟩; have HW1 := Lib.hid (HW0.out.next hb1); have c0 := HW1.out.q.cell 0; have c1 := HW1.out.q.cell 1; have c2 := HW1.out.q.cell 2; have c3 := HW1.out.q.cell 3; have c4 := HW1.out.q.cell 4; have z0 := HW1.out.q.frozen 0; have z1 := HW1.out.q.frozen 1; have z2 := HW1.out.q.frozen 2; have z3 := HW1.out.q.frozen 3; have z4 := HW1.out.q.frozen 4; simp only [List.getElem?_toArray, List.getElem?_cons_zero, List.getElem?_cons_succ] at c0 c1 c2 c3 c4; clear hb1 r0 r1 r2 r3 r4)
      refine bodyPost_ret (v := .tuple #[.agg #[.slice none 0 0, .slice none 0 0, .int .i64 0, .int .i64 0, .bool false], .int .i64 3]) (by simp [results, Tryz.results37, go_sem, c0, c1, c2, c3, c4]) rfl (run_ret_err HE.out ?_)
      exact ((((HW1.out.below.setCell hq1 _).setCell hq1 _).setCell hq1 _).setCell hq1 _).setCell hq1 _
  obtain ⟨h1, h2⟩ : ¬ n < 0 ∧ ¬ 1000 < n := ⟨fun h => hrg (.inl h), fun h => hrg (.inr h)⟩
  have HE := Lib.hid (E3.out rfl h1 h2)
  clear E1 E2 E3 hrg
  obtain ⟨m, rfl⟩ : ∃ m : Nat, n = m := ⟨n.toNat, by omega⟩
  have KO1 := Lib.hid (fun W (hW : Below w.heap.size w W) => ownReads (RdFacts.up HR.out.known hW) NS.out.k1 NS.out.k2)
  have KO2 := Lib.hid (fun W (hW : Below w.heap.size w W) => ownReads (RdFacts.up HR.out.new hW) NS.out.n1 NS.out.n2)
  go_enter Tryz.func37, Tryz.ntmps37
  go_wp2_with (go_at_call 64; refine (KB.out).mono ?_; rintro e w1 ⟨rfl, hb1⟩; have HW1 := Lib.hid (HW0.out.next hb1); have k0 := HW1.out.rb.cell 0; have k1 := HW1.out.rb.cell 1; have z0 := HW1.out.rb.frozen 0; have z1 := HW1.out.rb.frozen 1; simp only [List.getElem?_toArray, List.getElem?_cons_zero, List.getElem?_cons_succ] at k0 k1; clear hb1 r0 r1 r2 r3 r4)
  clear hW0 KB HW0
  go_cut [] (fun wx => OnRun w wx ⟨rk, rn, rs, rr, rd⟩)
  case first =>
    go_region_law (first
      | (go_simp; go_at_call 54; have hh := HW3.out; clear hh; (with_reducible refine (KO2.out _ HW3.out.below).mono ?_); rintro e w4 ⟨⟨a4, c4', rfl, hr4⟩, hb4⟩; have HW4 := Lib.hid (HW3.out.next hb4); have HN4 := Lib.hid (hr4.more RFact.steady (S' := fun q => w.heap.size + 2 ≤ q) (fun q hq _ => by have h3 := HW3.out.lt; have h2 : w3.heap.size ≤ q := hq; omega)); have HK4 := Lib.hid (RdSlice.agree RFact.steady (Below.agree hb4) HK3.out); have y0 := HW4.out.rb.frozen 0; have y1 := HW4.out.rb.frozen 1; have l0 := HW4.out.rb.cell 0; have l1 := HW4.out.rb.cell 1; simp only [List.getElem?_toArray, List.getElem?_cons_zero, List.getElem?_cons_succ] at l0 l1; clear hb4 hr4)
      | (go_simp; go_at_call 54; (with_reducible refine (KO1.out _ HW1.out.below.drew).mono ?_); rintro e w3 ⟨⟨a3, c3', rfl, hr3⟩, hb3⟩; have HW3 := Lib.hid (HW1.out.drew.next hb3); have HK3 := Lib.hid (hr3.more RFact.steady (S' := fun q => w.heap.size + 2 ≤ q) (fun q hq _ => by have h3 := HW1.out.lt; have h2 : w1.heap.size ≤ q := hq; omega)); have j0 := HW3.out.rb.cell 0; have j1 := HW3.out.rb.cell 1; simp only [List.getElem?_toArray, List.getElem?_cons_zero, List.getElem?_cons_succ] at j0 j1; clear hb3 hr3))
    all_goals
      go_wp2_with fail
      go_meet
      exact onRun_own (r := ⟨rk, rn, rs, rr, rd⟩) HW4.out HK4.out HN4.out
  have HON := Lib.hid hcut
  clear hcut k0 k1 z0 z1 KO1 KO2 HW1
  have HEI := Lib.hid (show stepsRun st q.1 p ⟨rk, rn, rs, rr, rd⟩ (m : Int) = iterP st q.1 p (m - 0) ⟨rk, rn, rs, rr, rd⟩ from HE.out)
  clear HE h1
  go_wp2
  go_loopw [34] (fun i wr => ∃ (j : Nat) (cur : PRun), j ≤ m ∧ i = .int .i64 j ∧ Hid (OnRun w wr cur) ∧ Hid (RunSmall cur) ∧ Hid (stepsRun st q.1 p ⟨rk, rn, rs, rr, rd⟩ (m : Int) = iterP st q.1 p (m - j) cur)) (fun i _ => m - (intOf i).toNat)
  case atStart => exact ⟨0, ⟨rk, rn, rs, rr, rd⟩, Nat.zero_le _, rfl, HON, NS, HEI⟩
  case round =>
    clear HON HEI
    obtain ⟨j, ⟨ck, cn, cs, cr, cd⟩, hj, rfl, HO, HNS, HE⟩ := hrel
    obtain ⟨a5, c5, b5, d5, hw5, hk5, hn5⟩ := HO.out
    have HW5 := Lib.hid hw5
    have HK5 := Lib.hid hk5
    have HN5 := Lib.hid hn5
    clear hw5 hk5 hn5 HO
    have u0 := HW5.out.rb.cell 0; have u1 := HW5.out.rb.cell 1; have u2 := HW5.out.rb.cell 2; have u3 := HW5.out.rb.cell 3; have u4 := HW5.out.rb.cell 4
    have c0 := HW5.out.q.cell 0; have c1 := HW5.out.q.cell 1; have c2 := HW5.out.q.cell 2; have c3 := HW5.out.q.cell 3; have c4 := HW5.out.q.cell 4
    have z0 := HW5.out.q.frozen 0; have z1 := HW5.out.q.frozen 1; have z2 := HW5.out.q.frozen 2; have z3 := HW5.out.q.frozen 3; have z4 := HW5.out.q.frozen 4
    simp only [List.getElem?_toArray, List.getElem?_cons_zero, List.getElem?_cons_succ] at u0 u1 u2 u3 u4 c0 c1 c2 c3 c4
    have hnq : ¬ (fun q => w.heap.size + 2 ≤ q) (w.heap.size + 1) := fun h => by have h' : w.heap.size + 2 ≤ w.heap.size + 1 := h; omega
    have HEND := Lib.hid (show iterP st q.1 p (m - j) ⟨ck, cn, cs, cr, cd⟩ = (⟨ck, cn, cs, cr, cd⟩, 0) → RunPost (stepsRun st q.1 p ⟨rk, rn, rs, rr, rd⟩ (m : Int)) w (.returned (.tuple #[.agg #[.slice a5 ck.length c5, .slice b5 cn.length d5, .int .i64 cs, .int .i64 cr, .bool cd], .int .i64 0])) (((((wr.setCell ⟨w.heap.size + 1, 0, none⟩ (.slice a5 ck.length c5)).setCell ⟨w.heap.size + 1, 1, none⟩ (.slice b5 cn.length d5)).setCell ⟨w.heap.size + 1, 2, none⟩ (.int .i64 cs)).setCell ⟨w.heap.size + 1, 3, none⟩ (.int .i64 cr)).setCell ⟨w.heap.size + 1, 4, none⟩ (.bool cd)) from fun he => by
      refine run_ret_ok (HE.out.trans he) ?_ ?_ ?_
      · exact ((((HW5.out.below.setCell hq1 _).setCell hq1 _).setCell hq1 _).setCell hq1 _).setCell hq1 _
      · exact RdFacts.newer (RdFacts.set_far (RdFacts.set_far (RdFacts.set_far (RdFacts.set_far (RdFacts.set_far HK5.out hnq _) hnq _) hnq _) hnq _) hnq _) (fun b hb => by have h' : w.heap.size + 2 ≤ b := hb; omega)
      · exact RdFacts.newer (RdFacts.set_far (RdFacts.set_far (RdFacts.set_far (RdFacts.set_far (RdFacts.set_far HN5.out hnq _) hnq _) hnq _) hnq _) hnq _) (fun b hb => by have h' : w.heap.size + 2 ≤ b := hb; omega))
    by_cases hlt : j < m
    · obtain ⟨l, hl⟩ : ∃ l, m - j = l + 1 := ⟨m - j - 1, by omega⟩
      have HL := Lib.hid (show m - (j + 1) = l by omega)
      rw [hl] at HE HEND
      clear hl
      cases cd
      case true =>
        have HP := Lib.hid (HEND.out (iter_done rfl))
        clear HEND HE
        go_wp2
        refine bodyPost_ret (v := .tuple #[.agg #[.slice a5 ck.length c5, .slice b5 cn.length d5, .int .i64 cs, .int .i64 cr, .bool true], .int .i64 0]) (by simp [results, Tryz.results37, go_sem, c0, c1, c2, c3, c4]) rfl HP.out
      have KP := Lib.hid (stepRunCalls p (.slice a p.length c) st q ⟨ck, cn, cs, cr, false⟩ (.slice a5 ck.length c5) (.slice b5 cn.length d5) wr HS.out (H.out.up HW5.out.below) ⟨HK5.out.any, HN5.out.any⟩ n1 N2.out N3.out HNS.out)
      have HSM := Lib.hid (step_small (st := st) (q := q) (p := p) N2.out HNS.out)
      have I1 := Lib.hid (fun he => HE.out.trans (iter_err rfl he))
      have I2 := Lib.hid (fun he => HE.out.trans (iter_next rfl he))
      clear HE HEND
      generalize stepRun st q.1 p ⟨ck, cn, cs, cr, false⟩ = x at *
      obtain ⟨⟨dk, dn, ds, dr, dd⟩, er⟩ := x
      dsimp only at *
      by_cases he : er = 0
      case neg =>
        have g2 : (er != 0) = true := by simpa using he
        have HEE := Lib.hid (I1.out he)
        clear he I1 I2
        go_wp2_with (go_at_call 87; refine (KP.out).mono ?_; rintro e w6 ⟨hb6, a6, c6, b6, d6, rfl, hk6, hn6⟩; have HW6 := Lib.hid ((HW5.out.next hb6).alloc (.cells #[.slice a6 dk.length c6, .slice b6 dn.length d6, .int .i64 ds, .int .i64 dr, .bool dd] 40)); have l0 := HW6.out.q.cell 0; have l1 := HW6.out.q.cell 1; have l2 := HW6.out.q.cell 2; have l3 := HW6.out.q.cell 3; have l4 := HW6.out.q.cell 4; have y0 := HW6.out.q.frozen 0; have y1 := HW6.out.q.frozen 1; have y2 := HW6.out.q.frozen 2; have y3 := HW6.out.q.frozen 3; have y4 := HW6.out.q.frozen 4; simp only [List.getElem?_toArray, List.getElem?_cons_zero, List.getElem?_cons_succ] at l0 l1 l2 l3 l4; clear hb6 hk6 hn6 u0 u1 u2 u3 u4 c0 c1 c2 c3 c4 z0 z1 z2 z3 z4)
        refine bodyPost_ret (v := .tuple #[.agg #[.slice none 0 0, .slice none 0 0, .int .i64 0, .int .i64 0, .bool false], .int .i64 er]) (by simp [results, Tryz.results37, go_sem, l0, l1, l2, l3, l4]) rfl (run_ret_err HEE.out ?_)
        exact ((((HW6.out.below.setCell hq1 _).setCell hq1 _).setCell hq1 _).setCell hq1 _).setCell hq1 _
      subst he
      have HEE := Lib.hid (show stepsRun st q.1 p ⟨rk, rn, rs, rr, rd⟩ (m : Int) = iterP st q.1 p (m - (j + 1)) ⟨dk, dn, ds, dr, dd⟩ by rw [HL.out]; exact I2.out rfl)
      clear I1 I2
      go_wp2_with (go_at_call 87; refine (KP.out).mono ?_; rintro e w6 ⟨hb6, a6, c6, b6, d6, rfl, hk6, hn6⟩; have hw6 := (HW5.out.next hb6).alloc (.cells #[.slice a6 dk.length c6, .slice b6 dn.length d6, .int .i64 ds, .int .i64 dr, .bool dd] 40); have hw5l := HW5.out.lt; have hk7 : RdFacts (fun q => w.heap.size + 2 ≤ q) (w6.alloc (.cells #[.slice a6 dk.length c6, .slice b6 dn.length d6, .int .i64 ds, .int .i64 dr, .bool dd] 40)) (.slice a6 dk.length c6) dk := (RdSlice.agree RFact.steady ((Agree.refl _ _).alloc _) hk6).more RFact.steady (fun b hb _ => by have h' : wr.heap.size ≤ b := hb; omega); have hn7 : RdFacts (fun q => w.heap.size + 2 ≤ q) (w6.alloc (.cells #[.slice a6 dk.length c6, .slice b6 dn.length d6, .int .i64 ds, .int .i64 dr, .bool dd] 40)) (.slice b6 dn.length d6) dn := (RdSlice.agree RFact.steady ((Agree.refl _ _).alloc _) hn6).more RFact.steady (fun b hb _ => by have h' : wr.heap.size ≤ b := hb; omega); have HON := Lib.hid (onRun_store (r := ⟨dk, dn, ds, dr, dd⟩) hw6 hk7 hn7); have l0 := hw6.rb.cell 0; have l1 := hw6.rb.cell 1; have l2 := hw6.rb.cell 2; have l3 := hw6.rb.cell 3; have l4 := hw6.rb.cell 4; have y0 := hw6.rb.frozen 0; have y1 := hw6.rb.frozen 1; have y2 := hw6.rb.frozen 2; have y3 := hw6.rb.frozen 3; have y4 := hw6.rb.frozen 4; simp only [List.getElem?_toArray, List.getElem?_cons_zero, List.getElem?_cons_succ] at l0 l1 l2 l3 l4; clear hb6 hk6 hn6 hw6 hk7 hn7 u0 u1 u2 u3 u4 c0 c1 c2 c3 c4 z0 z1 z2 z3 z4)
      go_roundw
      case rel => exact ⟨j + 1, ⟨dk, dn, ds, dr, dd⟩, by omega, by go_num, HON, HSM, HEE⟩
      case measure => simp [intOf]; omega
    · have HP := Lib.hid (HEND.out (by rw [show m - j = 0 by omega]; rfl))
      clear HEND HE
      go_wp2
      refine bodyPost_ret (v := .tuple #[.agg #[.slice a5 ck.length c5, .slice b5 cn.length d5, .int .i64 cs, .int .i64 cr, .bool cd], .int .i64 0]) (by simp [results, Tryz.results37, go_sem, c0, c1, c2, c3, c4]) rfl HP.out
end Go.Proofs.YtgoaiohkodbadaaGreat

/-
  WHAT A CALL MAKES OF A RUN, its answers being known.
-/
namespace Go.Proofs.YtgoaiohkodbadaaGreat
open Go.RowKit

/-- Facts, and an error, that a call answers. -/
def FactsEPost (r : List PFact × Int) (w : World) (e : Ending) (w' : World) : Prop :=
  Below w.heap.size w w' ∧ ∃ a c, e = .returned (.tuple #[.slice a r.1.length c, .int .i64 r.2]) ∧ RdFacts (fun _ => True) w' (.slice a r.1.length c) r.1
theorem factsE_err {r : List PFact × Int} {n : Int} {w w' : World} (h : r = ([], n)) (hb : Below w.heap.size w w') : FactsEPost r w (.returned (.tuple #[.slice none 0 0, .int .i64 n])) w' := by
  subst h; exact ⟨hb, none, 0, rfl, RdFacts.nil⟩
theorem factsE_ok {r : List PFact × Int} {l : List PFact} {w w' : World} {a : Option Addr} {c : Nat} (h : r = (l, 0)) (hb : Below w.heap.size w w') (hr : RdFacts (fun _ => True) w' (.slice a l.length c) l) : FactsEPost r w (.returned (.tuple #[.slice a l.length c, .int .i64 0])) w' := by
  subst h; exact ⟨hb, a, c, rfl, hr⟩
theorem all_err1 {st : List Int} {q : Int} {p : List PRule} {l : List PFact} (h : (beginP st q p l).2 ≠ 0) : allRun st q p l = ([], (beginP st q p l).2) := by unfold allRun; rw [if_pos h]
theorem all_err2 {st : List Int} {q : Int} {p : List PRule} {l : List PFact} (h : (beginP st q p l).2 = 0) (h2 : (stepsRun st q p (beginP st q p l).1 1000).2 ≠ 0) : allRun st q p l = ([], (stepsRun st q p (beginP st q p l).1 1000).2) := by
  unfold allRun; rw [if_neg (by simpa using h), if_pos h2]
theorem all_ok {st : List Int} {q : Int} {p : List PRule} {l : List PFact} (h : (beginP st q p l).2 = 0) (h2 : (stepsRun st q p (beginP st q p l).1 1000).2 = 0) : allRun st q p l = ((stepsRun st q p (beginP st q p l).1 1000).1.known, 0) := by
  unfold allRun; rw [if_neg (by simpa using h), if_neg (by simpa using h2)]
theorem zero_small : RunSmall zeroRun := ⟨by simp [zeroRun], by simp [zeroRun], by simp [zeroRun], by simp [zeroRun]⟩
theorem begin_small {st : List Int} {q : Int} {p : List PRule} {l : List PFact} (n4 : l.length ≤ 1048576) (n5 : ∀ x ∈ l, x.args.length ≤ 1048576) : RunSmall (beginP st q p l).1 := by
  unfold beginP
  split
  · exact zero_small
  split
  · exact zero_small
  · exact ⟨n4, n5, n4, n5⟩
/-- A run that a call made, in a block of its own. -/
structure RunIn (w W : World) (b : Nat) (kv nv : Value) (r : PRun) : Prop where
  below : Below w.heap.size w W
  old : w.heap.size ≤ b
  blk : Blk W b 40 #[kv, nv, .int .i64 r.stratum, .int .i64 r.rounds, .bool r.done]
  rd : RunRd W r kv nv
theorem RunIn.mk_ {w w1 W : World} {kv nv : Value} {r : PRun} {S S2 : Nat → Prop} (hw : Below w.heap.size w w1) (hb : Below w1.heap.size w1 W) (hk : RdFacts S W kv r.known) (hn : RdFacts S2 W nv r.new) :
    RunIn w (W.alloc (.cells #[kv, nv, .int .i64 r.stratum, .int .i64 r.rounds, .bool r.done] 40)) W.heap.size kv nv r := by
  have hWW := hw.trans (hb.mono (Below.size hw))
  exact ⟨hWW.alloc (Below.size hWW) _, Below.size hWW, Blk.new W _ _, ⟨RdFacts.any (RdSlice.agree RFact.steady ((Agree.refl _ _).alloc _) hk), RdFacts.any (RdSlice.agree RFact.steady ((Agree.refl _ _).alloc _) hn)⟩⟩
theorem RunIn.next {w W W' : World} {b : Nat} {kv nv : Value} {r : PRun} (h : RunIn w W b kv nv r) (hb : Below W.heap.size W W') : RunIn w W' b kv nv r :=
  ⟨h.below.trans (hb.mono (Below.size h.below)), h.old, h.blk.below hb h.blk.lt, h.rd.up hb⟩
theorem RunIn.alloc {w W : World} {b : Nat} {kv nv : Value} {r : PRun} (h : RunIn w W b kv nv r) (o : Obj) : RunIn w (W.alloc o) b kv nv r := h.next ((Below.refl _ _).alloc (Nat.le_refl _) o)
/-- Another run in its place. -/
theorem RunIn.store {w W : World} {b : Nat} {kv nv ev mv : Value} {r x : PRun} {w0 : World} (h : RunIn w W b kv nv r) (hb : b < w0.heap.size) (hk : RdFacts (New w0) W ev x.known) (hn : RdFacts (New w0) W mv x.new) :
    RunIn w (((((W.setCell ⟨b, 0, none⟩ ev).setCell ⟨b, 1, none⟩ mv).setCell ⟨b, 2, none⟩ (.int .i64 x.stratum)).setCell ⟨b, 3, none⟩ (.int .i64 x.rounds)).setCell ⟨b, 4, none⟩ (.bool x.done)) b ev mv x := by
  have ho := h.old
  have hnw : ¬ New w0 b := fun h => by have h' : w0.heap.size ≤ b := h; omega
  exact ⟨((((h.below.setCell ho _).setCell ho _).setCell ho _).setCell ho _).setCell ho _, ho,
    ((((h.blk.set_ 0 _).set_ 1 _).set_ 2 _).set_ 3 _).set_ 4 _,
    ⟨(RdFacts.set_far (RdFacts.set_far (RdFacts.set_far (RdFacts.set_far (RdFacts.set_far hk hnw _) hnw _) hnw _) hnw _) hnw _).any, (RdFacts.set_far (RdFacts.set_far (RdFacts.set_far (RdFacts.set_far (RdFacts.set_far hn hnw _) hnw _) hnw _) hnw _) hnw _).any⟩⟩
theorem run_known {x : PRun × Int} {k n : List PFact} {s r e0 : Int} {dn : Bool} {n1 n2 : Nat} {w w' : World} {e : Ending} (hx : x = (⟨k, n, s, r, dn⟩, e0)) (h1 : k.length = n1) (h2 : n.length = n2) (h : RunPost x w e w') :
    Below w.heap.size w w' ∧ ∃ a c b d, e = .returned (.tuple #[.agg #[.slice a n1 c, .slice b n2 d, .int .i64 s, .int .i64 r, .bool dn], .int .i64 e0]) ∧ RdFacts (New w) w' (.slice a n1 c) k ∧ RdFacts (New w) w' (.slice b n2 d) n := by
  subst hx; subst h1; subst h2; exact h
theorem factsE_known {x : List PFact × Int} {k : List PFact} {e0 : Int} {n1 : Nat} {w w' : World} {e : Ending} (hx : x = (k, e0)) (h1 : k.length = n1) (h : FactsEPost x w e w') :
    Below w.heap.size w w' ∧ ∃ a c, e = .returned (.tuple #[.slice a n1 c, .int .i64 e0]) ∧ RdFacts (fun _ => True) w' (.slice a n1 c) k := by
  subst hx; subst h1; exact h
end Go.Proofs.YtgoaiohkodbadaaGreat

/-
  THE WALKS OF cororef1.Less and cororef1.Equal: ltF; are they the same?
-/
namespace Go.Proofs.YtgoaiohkodbadaaGreat
open Go.RowKit

theorem ltF_name {f g : PFact} (h : f.name ≠ g.name) : ltF f g = strLt f.name g.name := by
  have h0 : cmpStr f.name g.name ≠ 0 := fun e => h ((cmpStr3.zero _ _).1 e)
  have h1 : cmpFact f g = cmpStr f.name g.name := by simp [cmpFact, orInt, h0]
  rw [Bool.eq_iff_iff]
  simp only [ltF, h1, decide_eq_true_eq]
  exact cmpStr_lt _ _
theorem ltF_len {f g : PFact} (h : f.name = g.name) (k : f.args.length ≠ g.args.length) : ltF f g = decide (f.args.length < g.args.length) := by
  have h0 : cmpStr f.name g.name = 0 := (cmpStr3.zero _ _).2 h
  have h2 : cmpInt (f.args.length : Int) g.args.length ≠ 0 := fun e => k (by have := (cmpInt3.zero _ _).1 e; omega)
  have h1 : cmpFact f g = cmpInt f.args.length g.args.length := by simp [cmpFact, orInt, h0, h2]
  rw [Bool.eq_iff_iff]
  simp only [ltF, h1, decide_eq_true_eq, cmpInt]
  split
  · constructor <;> intro <;> omega
  · split <;> constructor <;> intro <;> omega
theorem ltF_args {f g : PFact} (h : f.name = g.name) (k : f.args.length = g.args.length) : ltF f g = decide (cmpStrs f.args g.args < 0) := by
  have h0 : cmpStr f.name g.name = 0 := (cmpStr3.zero _ _).2 h
  have h2 : cmpInt (f.args.length : Int) g.args.length = 0 := (cmpInt3.zero _ _).2 (by omega)
  have h1 : cmpFact f g = cmpStrs f.args g.args := by
    simp only [cmpFact, orInt, h0, h2]
    simp
    intro e; exact e.symm
  simp only [ltF, h1]
theorem cmpStrs_same {x y : Str} {a b : List Str} (h : x = y) : cmpStrs (x :: a) (y :: b) = cmpStrs a b := by
  have h0 : cmpStr x y = 0 := (cmpStr3.zero _ _).2 h
  simp [cmpStrs, h0]
theorem cmpStrs_other {x y : Str} {a b : List Str} (h : x ≠ y) : decide (cmpStrs (x :: a) (y :: b) < 0) = strLt x y := by
  have h0 : cmpStr x y ≠ 0 := fun e => h ((cmpStr3.zero _ _).1 e)
  rw [Bool.eq_iff_iff, decide_eq_true_eq]
  simp only [cmpStrs, if_pos h0]
  exact cmpStr_lt _ _

theorem fresh_drewN {w w' : World} (h : Fresh w w') (n : Nat) : Fresh w (w'.drewN n) := h.trans ⟨n, #[], by simp⟩

attribute [local go_sem ↓] Go.wp_at_zero Go.wp_at_succ
set_option maxRecDepth 100000 in
set_option maxHeartbeats 2000000 in
theorem lessRef {S T : Nat → Prop} (f g : PFact) (av bv : Value) (w : World) (ha : RdStrs S w av f.args) (hb : RdStrs T w bv g.args) (n1 : f.args.length ≤ 1073741824) :
    Calls Tryz.prog 110 #[.agg #[.string f.name, av], .agg #[.string g.name, bv]] w fun e w' => e = .returned (.bool (ltF f g)) ∧ Fresh w w' := by
  obtain ⟨aa, ac, rfl, -, -, -⟩ := id ha.form
  obtain ⟨ba, bc, rfl, -, -, -⟩ := id hb.form
  have HF := Lib.hid (((Fresh.refl w).alloc (.cells #[.string f.name, .slice aa f.args.length ac] 27)).alloc (.cells #[.string g.name, .slice ba g.args.length bc] 27))
  by_cases hn : f.name = g.name
  · have g1 : (f.name.toList == g.name.toList) = true := by rw [hn]; exact beq_self_eq_true _
    by_cases hl : f.args.length = g.args.length
    · have HL := Lib.hid (ltF_args hn hl)
      have HA := Lib.hid (fun W (h : Agree (fun _ => True) w W) i x (hx : f.args[i]? = some x) => RdStrs.at ((ha.more RStr.steady (S' := fun _ => True) (fun _ _ _ => trivial)).agree RStr.steady h) hx)
      have HB := Lib.hid (fun W (h : Agree (fun _ => True) w W) i x (hx : g.args[i]? = some x) => RdStrs.at ((hb.more RStr.steady (S' := fun _ => True) (fun _ _ _ => trivial)).agree RStr.steady h) hx)
      have HN := Lib.hid hl
      rw [← hl]
      rw [← hl] at HF
      clear hn ha hb hl
      have c0 : ((w.alloc (.cells #[.string f.name, .slice aa f.args.length ac] 27)).alloc (.cells #[.string g.name, .slice ba f.args.length bc] 27)).cell? ⟨w.heap.size, 1, none⟩ = some (.slice aa f.args.length ac) := by
        rw [World.cell?_of_block (Below.heap_alloc _ _ _ (show w.heap.size < _ by simp))]; simp
      have c1 : ((w.alloc (.cells #[.string f.name, .slice aa f.args.length ac] 27)).alloc (.cells #[.string g.name, .slice ba f.args.length bc] 27)).cell? ⟨w.heap.size + 1, 1, none⟩ = some (.slice ba f.args.length bc) := by
        have e : w.heap.size + 1 = (w.alloc (.cells #[.string f.name, .slice aa f.args.length ac] 27)).heap.size := by simp
        rw [e]; simp
      have hsz : w.heap.size + 1 < ((w.alloc (.cells #[.string f.name, .slice aa f.args.length ac] 27)).alloc (.cells #[.string g.name, .slice ba f.args.length bc] 27)).heap.size := by simp
      go_enter Tryz.func110, Tryz.ntmps110
      go_wp2
      generalize (w.alloc (.cells #[.string f.name, .slice aa f.args.length ac] 27)).alloc (.cells #[.string g.name, .slice ba f.args.length bc] 27) = w0 at *
      go_loopw [33] (fun i wr => ∃ k : Nat, k ≤ f.args.length ∧ i = .int .i64 k ∧ Hid (ltF f g = decide (cmpStrs (f.args.drop k) (g.args.drop k) < 0)) ∧ Hid (Fresh w0 wr)) (fun i _ => f.args.length - (intOf i).toNat)
      case atStart => exact ⟨0, Nat.zero_le _, rfl, HL, Fresh.refl _⟩
      case round =>
        obtain ⟨k, hk, rfl, HR, HW⟩ := hrel
        have d0 := (cell_below HW.out.below (show w.heap.size < _ by omega) 1).trans c0
        have d1 := (cell_below HW.out.below hsz 1).trans c1
        clear c0 c1
        by_cases hlt : k < f.args.length
        · obtain ⟨x, hx⟩ : ∃ x, f.args[k]? = some x := ⟨_, List.getElem?_eq_getElem hlt⟩
          obtain ⟨y, hy⟩ : ∃ y, g.args[k]? = some y := ⟨_, List.getElem?_eq_getElem (by rw [← HN.out]; exact hlt)⟩
          have hag : Agree (fun _ => True) w wr := Below.agree (HF.out.trans HW.out).below
          obtain ⟨b1, o1, rfl, -, -, hc1⟩ := HA.out wr hag k x hx
          obtain ⟨b2, o2, rfl, -, -, hc2⟩ := HB.out wr hag k y hy
          have HX := Lib.hid hx
          have HY := Lib.hid hy
          clear hx hy hag
          have i1 : (0 : Int) ≤ (k : Int) := by omega
          have i2 : (k : Int) < (f.args.length : Int) := by omega
          by_cases hxy : x = y
          · have gz : (x.toList == y.toList) = true := by rw [hxy]; exact beq_self_eq_true _
            have HXY := Lib.hid hxy
            clear hxy
            go_wp2_with fail
            go_quiet (fail)
            go_wp2
            go_roundw
            case rel =>
              refine ⟨k + 1, by omega, by go_num, ?_, ?_⟩
              · rw [HR.out, drop_cons HX.out, drop_cons HY.out, cmpStrs_same HXY.out]; exact Lib.hid rfl
              · exact Lib.hid (fresh_drewN HW.out _)
            case measure => simp [intOf]; omega
          · have gz : (x.toList == y.toList) = false := by rw [beq_toList]; exact decide_eq_false hxy
            have HXY := Lib.hid (show ltF f g = strLt x y by rw [HR.out, drop_cons HX.out, drop_cons HY.out]; exact cmpStrs_other hxy)
            clear hxy
            obtain ⟨s, hs⟩ : ∃ s, strLt x y = s := ⟨_, rfl⟩
            rw [hs] at HXY
            have gs : Op.bytesLess x.toList y.toList = s := hs
            clear hs
            go_wp2_with fail
            go_quiet (fail)
            go_wp2_with fail
            go_quiet (fail)
            go_wp2
            go_ret
            refine ⟨ret_bool HXY.out.symm, ?_⟩
            exact fresh_drewN (fresh_drewN (HF.out.trans HW.out) _) _
        · have HE := Lib.hid (show ltF f g = false by rw [HR.out, drop_end (by omega : f.args.length ≤ k), drop_end (by rw [← HN.out]; omega : g.args.length ≤ k)]; rfl)
          go_wp2
          go_ret
          exact ⟨ret_bool HE.out.symm, HF.out.trans HW.out⟩
    · have HL := Lib.hid (ltF_len hn hl)
      have i1 : ((f.args.length : Int) == (g.args.length : Int)) = false := by simp; omega
      have i2 : ¬ ((f.args.length : Int) = (g.args.length : Int)) := by omega
      clear hn ha hb
      go_enter Tryz.func110, Tryz.ntmps110
      go_wp2
      go_ret
      exact ⟨by rw [HL.out]; simp, HF.out⟩
  · have HL := Lib.hid (ltF_name hn)
    have g1 : (f.name.toList == g.name.toList) = false := by rw [beq_toList]; exact decide_eq_false hn
    obtain ⟨s, hs⟩ : ∃ s, strLt f.name g.name = s := ⟨_, rfl⟩
    rw [hs] at HL
    have gs : Op.bytesLess f.name.toList g.name.toList = s := hs
    clear hs hn ha hb
    go_enter Tryz.func110, Tryz.ntmps110
    go_wp2
    go_ret
    exact ⟨ret_bool HL.out.symm, HF.out⟩

theorem equal_ltF (f g : PFact) : decide (f = g) = (!ltF f g && !ltF g f) := by
  rw [Bool.eq_iff_iff, decide_eq_true_eq]
  constructor
  · rintro rfl; simp [ltF_irrefl]
  · intro h
    simp only [Bool.and_eq_true, Bool.not_eq_true'] at h
    exact ltF_tri h.1 h.2

set_option maxHeartbeats 2000000 in
theorem equalRef {S T : Nat → Prop} (f g : PFact) (av bv : Value) (w : World) (ha : RdStrs S w av f.args) (hb : RdStrs T w bv g.args) (n1 : f.args.length ≤ 1073741824) (n2 : g.args.length ≤ 1073741824) :
    Calls Tryz.prog 63 #[.agg #[.string f.name, av], .agg #[.string g.name, bv]] w fun e w' => e = .returned (.bool (decide (f = g))) ∧ Fresh w w' := by
  obtain ⟨aa, ac, rfl, -, -, -⟩ := id ha.form
  obtain ⟨ba, bc, rfl, -, -, -⟩ := id hb.form
  have HF := Lib.hid (((Fresh.refl w).alloc (.cells #[.string f.name, .slice aa f.args.length ac] 27)).alloc (.cells #[.string g.name, .slice ba g.args.length bc] 27))
  have K1 := Lib.hid (fun W (h : Agree (fun _ => True) w W) => lessRef f g _ _ W ((ha.more RStr.steady (S' := fun _ => True) (fun _ _ _ => trivial)).agree RStr.steady h) ((hb.more RStr.steady (S' := fun _ => True) (fun _ _ _ => trivial)).agree RStr.steady h) n1)
  have K2 := Lib.hid (fun W (h : Agree (fun _ => True) w W) => lessRef g f _ _ W ((hb.more RStr.steady (S' := fun _ => True) (fun _ _ _ => trivial)).agree RStr.steady h) ((ha.more RStr.steady (S' := fun _ => True) (fun _ _ _ => trivial)).agree RStr.steady h) n2)
  have HE := Lib.hid (equal_ltF f g)
  clear ha hb
  cases h1 : ltF f g
  · rw [h1] at K1 HE
    clear h1
    have c0 : ((w.alloc (.cells #[.string f.name, .slice aa f.args.length ac] 27)).alloc (.cells #[.string g.name, .slice ba g.args.length bc] 27)).cell? ⟨w.heap.size, 0, none⟩ = some (.string f.name) := by
      rw [World.cell?_of_block (Below.heap_alloc _ _ _ (show w.heap.size < _ by simp))]; simp
    have c1 : ((w.alloc (.cells #[.string f.name, .slice aa f.args.length ac] 27)).alloc (.cells #[.string g.name, .slice ba g.args.length bc] 27)).cell? ⟨w.heap.size, 1, none⟩ = some (.slice aa f.args.length ac) := by
      rw [World.cell?_of_block (Below.heap_alloc _ _ _ (show w.heap.size < _ by simp))]; simp
    have e : w.heap.size + 1 = (w.alloc (.cells #[.string f.name, .slice aa f.args.length ac] 27)).heap.size := by simp
    have d0 : ((w.alloc (.cells #[.string f.name, .slice aa f.args.length ac] 27)).alloc (.cells #[.string g.name, .slice ba g.args.length bc] 27)).cell? ⟨w.heap.size + 1, 0, none⟩ = some (.string g.name) := by
      rw [e]; simp
    have d1 : ((w.alloc (.cells #[.string f.name, .slice aa f.args.length ac] 27)).alloc (.cells #[.string g.name, .slice ba g.args.length bc] 27)).cell? ⟨w.heap.size + 1, 1, none⟩ = some (.slice ba g.args.length bc) := by
      rw [e]; simp
    have hsz : w.heap.size + 1 < ((w.alloc (.cells #[.string f.name, .slice aa f.args.length ac] 27)).alloc (.cells #[.string g.name, .slice ba g.args.length bc] 27)).heap.size := by simp
    clear e
    go_enter Tryz.func63, Tryz.ntmps63
    go_wp2_with (first
      | (go_at_call 110; refine (K2.out _ (Below.agree (HF.out.trans HW1.out).below)).mono ?_; rintro e w2 ⟨rfl, hf2⟩; have HW2 := Lib.hid ((HF.out.trans HW1.out).trans hf2); clear hf2)
      | (go_at_call 110; refine (K1.out _ (Below.agree HF.out.below)).mono ?_; rintro e w1 ⟨rfl, hf1⟩; have HW1 := Lib.hid hf1; have x0 := (cell_below hf1.below (show w.heap.size < _ by omega) 0).trans c0; have x1 := (cell_below hf1.below (show w.heap.size < _ by omega) 1).trans c1; have y0 := (cell_below hf1.below hsz 0).trans d0; have y1 := (cell_below hf1.below hsz 1).trans d1; clear hf1))
    go_ret
    refine ⟨ret_bool ?_, HW2.out⟩
    rw [HE.out]; simp
  · rw [h1] at K1 HE
    clear h1
    go_enter Tryz.func63, Tryz.ntmps63
    go_wp2_with (go_at_call 110; refine (K1.out _ (Below.agree HF.out.below)).mono ?_; rintro e w1 ⟨rfl, hf1⟩)
    go_ret
    refine ⟨ret_bool ?_, HF.out.trans hf1⟩
    rw [HE.out]; simp
end Go.Proofs.YtgoaiohkodbadaaGreat

/-
  THE WALKS OF cororef1.Same and cororef1.In: are two lists of facts the same? Is a fact in a list?
-/
namespace Go.Proofs.YtgoaiohkodbadaaGreat
open Go.RowKit

theorem eq_of_get {a b : List PFact} (hl : a.length = b.length) (h : ∀ i x y, i < a.length → a[i]? = some x → b[i]? = some y → x = y) : a = b := by
  apply List.ext_getElem hl
  intro i h1 h2
  exact h i _ _ h1 (List.getElem?_eq_getElem h1) (List.getElem?_eq_getElem h2)

attribute [local go_sem ↓] Go.wp_at_zero Go.wp_at_succ
set_option maxRecDepth 100000 in
set_option maxHeartbeats 2000000 in
theorem sameRef {S T : Nat → Prop} (va vb : Value) (a b : List PFact) (w : World) (ha : RdFacts S w va a) (hb : RdFacts T w vb b) (n1 : a.length ≤ 1073741824) (n2 : ∀ x ∈ a, x.args.length ≤ 1073741824) (n3 : ∀ x ∈ b, x.args.length ≤ 1073741824) :
    Calls Tryz.prog 39 #[va, vb] w fun e w' => e = .returned (.bool (decide (a = b))) ∧ Fresh w w' := by
  obtain ⟨aa, ac, rfl, -, -, -⟩ := id ha.form
  obtain ⟨ba, bc, rfl, -, -, -⟩ := id hb.form
  by_cases hl : a.length = b.length
  · have HN := Lib.hid hl
    have HA := Lib.hid (fun W (h : Agree (fun _ => True) w W) i x (hx : a[i]? = some x) => RdFacts.at ((ha.more RFact.steady (S' := fun _ => True) (fun _ _ _ => trivial)).agree RFact.steady h) hx)
    have HB := Lib.hid (fun W (h : Agree (fun _ => True) w W) i x (hx : b[i]? = some x) => RdFacts.at ((hb.more RFact.steady (S' := fun _ => True) (fun _ _ _ => trivial)).agree RFact.steady h) hx)
    have N2 := Lib.hid n2
    have N3 := Lib.hid n3
    rw [← hl]
    clear ha hb hl n2 n3
    go_enter Tryz.func39, Tryz.ntmps39
    go_wp2
    go_loopw [13] (fun i wr => ∃ k : Nat, k ≤ a.length ∧ i = .int .i64 k ∧ Hid (∀ i x y, i < k → a[i]? = some x → b[i]? = some y → x = y) ∧ Hid (Fresh w wr)) (fun i _ => a.length - (intOf i).toNat)
    case atStart => exact ⟨0, Nat.zero_le _, rfl, Lib.hid (fun i x y h => by omega), Fresh.refl _⟩
    case round =>
      obtain ⟨k, hk, rfl, HR, HW⟩ := hrel
      by_cases hlt : k < a.length
      · obtain ⟨x, hx⟩ : ∃ x, a[k]? = some x := ⟨_, List.getElem?_eq_getElem hlt⟩
        obtain ⟨y, hy⟩ : ∃ y, b[k]? = some y := ⟨_, List.getElem?_eq_getElem (by rw [← HN.out]; exact hlt)⟩
        have hag : Agree (fun _ => True) w wr := Below.agree HW.out.below
        obtain ⟨b1, o1, av, rfl, -, hb1, c0, c1, hav⟩ := HA.out wr hag k x hx
        obtain ⟨b2, o2, bv, rfl, -, hb2, d0, d1, hbv⟩ := HB.out wr hag k y hy
        obtain ⟨xa, xc, rfl, -, -, -⟩ := id hav.form
        obtain ⟨ya, yc, rfl, -, -, -⟩ := id hbv.form
        have nx : x.args.length ≤ 1073741824 := N2.out x (List.mem_of_getElem? hx)
        have ny : y.args.length ≤ 1073741824 := N3.out y (List.mem_of_getElem? hy)
        have K := Lib.hid (fun W (h : Agree (fun _ => True) wr W) => equalRef x y _ _ W (hav.agree RStr.steady h) (hbv.agree RStr.steady h) nx ny)
        have HX := Lib.hid hx
        have HY := Lib.hid hy
        clear hx hy hag hav hbv nx ny
        have i1 : (0 : Int) ≤ (k : Int) := by omega
        have i2 : (k : Int) < (a.length : Int) := by omega
        cases hxy : decide (x = y)
        · rw [hxy] at K
          have HXY := Lib.hid (show a ≠ b from fun e => by
            have h1 := HX.out
            rw [e, HY.out] at h1
            exact of_decide_eq_false hxy (Option.some.inj h1).symm)
          clear hxy
          go_wp2_with fail
          go_region_held3 (fun w' => w'.cell? ⟨b1, o1 + k * 2, none⟩ = some (.string x.name) ∧ w'.cell? ⟨b1, o1 + k * 2 + 1, none⟩ = some (.slice xa x.args.length xc) ∧
              w'.cell? ⟨b2, o2 + k * 2, none⟩ = some (.string y.name) ∧ w'.cell? ⟨b2, o2 + k * 2 + 1, none⟩ = some (.slice ya y.args.length yc))
            (first | (refine ⟨?_, ?_, ?_, ?_⟩ <;> (first | (rw [hk2 _ hb1]; assumption) | (rw [hk2 _ hb2]; assumption))) | go_keep)
            (first
              | (go_at_call 63; refine (K.out _ (Agree.refl _ _).drew).mono ?_; rintro e w1 ⟨rfl, hf1⟩; have hk2 : ∀ c, c < wr.heap.size → ∀ off, w1.cell? ⟨c, off, none⟩ = wr.cell? ⟨c, off, none⟩ := fun c hc off => cell_below (w := wr.drew) hf1.below hc off))
          have HW2 := Lib.hid (HW.out.drew.trans hf1)
          clear hf1 hk2 c0 c1 d0 d1
          go_wp2
          go_ret
          exact ⟨ret_bool (decide_eq_false HXY.out).symm, HW2.out⟩
        · rw [hxy] at K
          have HXY := Lib.hid (of_decide_eq_true hxy)
          clear hxy
          go_wp2_with fail
          go_region_held3 (fun w' => w'.cell? ⟨b1, o1 + k * 2, none⟩ = some (.string x.name) ∧ w'.cell? ⟨b1, o1 + k * 2 + 1, none⟩ = some (.slice xa x.args.length xc) ∧
              w'.cell? ⟨b2, o2 + k * 2, none⟩ = some (.string y.name) ∧ w'.cell? ⟨b2, o2 + k * 2 + 1, none⟩ = some (.slice ya y.args.length yc))
            (first | (refine ⟨?_, ?_, ?_, ?_⟩ <;> (first | (rw [hk2 _ hb1]; assumption) | (rw [hk2 _ hb2]; assumption))) | go_keep)
            (first
              | (go_at_call 63; refine (K.out _ (Agree.refl _ _).drew).mono ?_; rintro e w1 ⟨rfl, hf1⟩; have hk2 : ∀ c, c < wr.heap.size → ∀ off, w1.cell? ⟨c, off, none⟩ = wr.cell? ⟨c, off, none⟩ := fun c hc off => cell_below (w := wr.drew) hf1.below hc off))
          have HW2 := Lib.hid (HW.out.drew.trans hf1)
          clear hf1 hk2 c0 c1 d0 d1
          go_wp2
          go_roundw
          case rel =>
            refine ⟨k + 1, by omega, by go_num, Lib.hid (fun i p q hi hp hq => ?_), HW2.out⟩
            by_cases e : i = k
            · subst e
              rw [HX.out] at hp
              rw [HY.out] at hq
              rw [← Option.some.inj hp, ← Option.some.inj hq]
              exact HXY.out
            · exact HR.out i p q (by omega) hp hq
          case measure => simp [intOf]; omega
      · have HE := Lib.hid (show a = b from eq_of_get HN.out (fun i x y hi => HR.out i x y (by omega)))
        go_wp2
        go_ret
        exact ⟨ret_bool (decide_eq_true HE.out).symm, HW.out⟩
  · have HE := Lib.hid (show a ≠ b from fun e => hl (by rw [e]))
    have i2 : ¬ ((a.length : Int) = (b.length : Int)) := by omega
    have i1 : ((a.length : Int) == (b.length : Int)) = false := by simp; omega
    clear ha hb
    go_enter Tryz.func39, Tryz.ntmps39
    go_wp2
    go_ret
    exact ⟨ret_bool (decide_eq_false HE.out).symm, Fresh.refl _⟩

theorem memF_drop {f x : PFact} {l : List PFact} {k : Nat} (h : l[k]? = some x) : memF f (l.drop k) = (decide (x = f) || memF f (l.drop (k + 1))) := by
  rw [Bool.eq_iff_iff]
  simp only [Bool.or_eq_true, decide_eq_true_eq, memF_iff]
  rw [drop_cons h, List.mem_cons]
  constructor
  · rintro (h | h)
    · exact .inl h.symm
    · exact .inr h
  · rintro (h | h)
    · exact .inl h.symm
    · exact .inr h

set_option maxRecDepth 100000 in
set_option maxHeartbeats 2000000 in
theorem inRef {S T : Nat → Prop} (v : Value) (l : List PFact) (f : PFact) (av : Value) (w : World) (h : RdFacts S w v l) (hf : RdStrs T w av f.args) (n1 : l.length ≤ 1073741824) (n2 : ∀ x ∈ l, x.args.length ≤ 1073741824) (n3 : f.args.length ≤ 1073741824) :
    Calls Tryz.prog 61 #[v, .agg #[.string f.name, av]] w fun e w' => e = .returned (.bool (memF f l)) ∧ Fresh w w' := by
  obtain ⟨a, c, rfl, -, -, -⟩ := id h.form
  obtain ⟨fa, fc, rfl, -, -, -⟩ := id hf.form
  have H := Lib.hid (fun W (ha : Agree (fun _ => True) w W) i x (hx : l[i]? = some x) => RdFacts.at ((h.more RFact.steady (S' := fun _ => True) (fun _ _ _ => trivial)).agree RFact.steady ha) hx)
  have HF := Lib.hid (fun W (ha : Agree (fun _ => True) w W) => (hf.more RStr.steady (S' := fun _ => True) (fun _ _ _ => trivial)).agree RStr.steady ha)
  have N2 := Lib.hid n2
  clear h hf n2
  have c0 : (w.alloc (.cells #[.string f.name, .slice fa f.args.length fc] 27)).cell? ⟨w.heap.size, 0, none⟩ = some (.string f.name) := by simp
  have c1 : (w.alloc (.cells #[.string f.name, .slice fa f.args.length fc] 27)).cell? ⟨w.heap.size, 1, none⟩ = some (.slice fa f.args.length fc) := by simp
  have hsz : w.heap.size < (w.alloc (.cells #[.string f.name, .slice fa f.args.length fc] 27)).heap.size := by simp
  have HF0 := Lib.hid ((Fresh.refl w).alloc (.cells #[.string f.name, .slice fa f.args.length fc] 27))
  go_enter Tryz.func61, Tryz.ntmps61
  go_wp2
  generalize w.alloc (.cells #[.string f.name, .slice fa f.args.length fc] 27) = w0 at *
  go_loopw [9] (fun i wr => ∃ k : Nat, k ≤ l.length ∧ i = .int .i64 k ∧ Hid (memF f l = memF f (l.drop k)) ∧ Hid (Fresh w0 wr)) (fun i _ => l.length - (intOf i).toNat)
  case atStart => exact ⟨0, Nat.zero_le _, rfl, Lib.hid rfl, Fresh.refl _⟩
  case round =>
    obtain ⟨k, hk, rfl, HR, HW⟩ := hrel
    have d0 := (cell_below HW.out.below hsz 0).trans c0
    have d1 := (cell_below HW.out.below hsz 1).trans c1
    have hsr : w.heap.size < wr.heap.size := Nat.lt_of_lt_of_le hsz HW.out.below.size
    clear c0 c1
    by_cases hlt : k < l.length
    · obtain ⟨x, hx⟩ : ∃ x, l[k]? = some x := ⟨_, List.getElem?_eq_getElem hlt⟩
      have hag : Agree (fun _ => True) w wr := Below.agree (HF0.out.trans HW.out).below
      obtain ⟨b1, o1, av, rfl, -, hb1, e0, e1, hav⟩ := H.out wr hag k x hx
      obtain ⟨xa, xc, rfl, -, -, -⟩ := id hav.form
      have nx : x.args.length ≤ 1073741824 := N2.out x (List.mem_of_getElem? hx)
      have K := Lib.hid (equalRef x f (.slice xa x.args.length xc) (.slice fa f.args.length fc) (wr.alloc (.cells #[.string x.name, .slice xa x.args.length xc] 27)) (hav.agree RStr.steady ((Agree.refl _ _).alloc _)) ((HF.out wr hag).agree RStr.steady ((Agree.refl _ _).alloc _)) nx n3)
      have HM := Lib.hid (memF_drop (f := f) hx)
      have m0 := (World.cell?_of_block (a := ⟨w.heap.size, 0, none⟩) (Below.heap_alloc wr (.cells #[.string x.name, .slice xa x.args.length xc] 27) w.heap.size hsr)).trans d0
      have m1 := (World.cell?_of_block (a := ⟨w.heap.size, 1, none⟩) (Below.heap_alloc wr (.cells #[.string x.name, .slice xa x.args.length xc] 27) w.heap.size hsr)).trans d1
      clear hx hag hav nx
      cases hxy : decide (x = f)
      · rw [hxy] at K HM
        clear hxy
        go_wp2_with (go_at_call 63; refine (K.out).mono ?_; rintro e w1 ⟨rfl, hf1⟩; have HW2 := Lib.hid ((HW.out.alloc _).trans hf1); clear hf1)
        go_roundw
        case rel => exact ⟨k + 1, by omega, by go_num, Lib.hid (by rw [HR.out, HM.out]; simp), HW2.out⟩
        case measure => simp [intOf]; omega
      · rw [hxy] at K HM
        clear hxy
        go_wp2_with (go_at_call 63; refine (K.out).mono ?_; rintro e w1 ⟨rfl, hf1⟩; have HW2 := Lib.hid ((HW.out.alloc _).trans hf1); clear hf1)
        go_ret
        exact ⟨ret_bool (by rw [HR.out, HM.out]; simp), HF0.out.trans HW2.out⟩
    · have HE := Lib.hid (show memF f l = false by rw [HR.out, drop_end (by omega : l.length ≤ k)]; rfl)
      go_wp2
      go_ret
      exact ⟨ret_bool HE.out.symm, HF0.out.trans HW.out⟩
end Go.Proofs.YtgoaiohkodbadaaGreat

/-
  THE WALKS OF round.All, and of cororef4.SameRun at runs that are the same.
-/
namespace Go.Proofs.YtgoaiohkodbadaaGreat
open Go.RowKit

set_option maxRecDepth 100000 in
set_option maxHeartbeats 8000000 in
theorem allRunCalls {S S2 : Nat → Prop} (p : List PRule) (v fv : Value) (st : List Int) (q : Int × Int) (l : List PFact) (w : World) (hS : StrataIs p st q) (h : RdRules S w v p) (hf : RdFacts S2 w fv l)
    (n1 : p.length ≤ 1048576) (n2 : ∀ r ∈ p, RuleSmall r) (n3 : ∀ r ∈ p, NameSmall r) (n4 : l.length ≤ 1048576) (n5 : ∀ x ∈ l, x.args.length ≤ 1048576) :
    Calls Tryz.prog 38 #[v, fv] w (FactsEPost (allRun st q.1 p l) w) := by
  obtain ⟨a, c, rfl, -, -, -⟩ := id h.form
  obtain ⟨fa, fc, rfl, -, -, -⟩ := id hf.form
  have KB := Lib.hid (beginCalls p _ _ st q l w hS h hf n1 n2 n3 n4 n5)
  have KS := Lib.hid (fun W kv nv (r : PRun) (hW : Below w.heap.size w W) (hr : RunRd W r kv nv) hs => stepsRunCalls p (.slice a p.length c) st q r kv nv 1000 W hS (h.up hW) hr n1 n2 n3 hs)
  have HBS := Lib.hid (begin_small (st := st) (q := q.1) (p := p) n4 n5)
  have A1 := Lib.hid (all_err1 (st := st) (q := q.1) (p := p) (l := l))
  have A2 := Lib.hid (all_err2 (st := st) (q := q.1) (p := p) (l := l))
  have A3 := Lib.hid (all_ok (st := st) (q := q.1) (p := p) (l := l))
  clear h hf n2 n3 n5 hS
  generalize beginP st q.1 p l = x at *
  obtain ⟨⟨dk, dn, ds, dr, dd⟩, er⟩ := x
  dsimp only at *
  by_cases he : er = 0
  case neg =>
    have g1 : (er != 0) = true := by simpa using he
    have HE := Lib.hid (A1.out he)
    clear he A1 A2 A3 KS
    go_enter Tryz.func38, Tryz.ntmps38
    go_wp2_with (go_at_call 36; refine (KB.out).mono ?_; rintro e w1 ⟨hb1, a1, c1, b1, d1, rfl, hk1, hn1⟩; have HB1 := Lib.hid hb1; clear hb1 hk1 hn1)
    refine bodyPost_ret (v := .tuple #[.slice none 0 0, .int .i64 er]) (by simp [results, Tryz.results38, go_sem]) rfl ?_
    exact factsE_err HE.out (HB1.out.alloc (Below.size HB1.out) _)
  subst he
  have KS1 := Lib.hid (fun W kv nv hW hr => KS.out W kv nv ⟨dk, dn, ds, dr, dd⟩ hW hr HBS.out)
  clear KS A1
  generalize stepsRun st q.1 p ⟨dk, dn, ds, dr, dd⟩ 1000 = y at *
  obtain ⟨⟨ek, en, es, er', ed⟩, e2⟩ := y
  dsimp only at *
  by_cases he : e2 = 0
  case neg =>
    have g1 : (e2 != 0) = true := by simpa using he
    have HE := Lib.hid (A2.out rfl he)
    clear he A2 A3
    go_enter Tryz.func38, Tryz.ntmps38
    go_wp2_with (first
      | (go_at_call 37; have hh := HI1.out; clear hh; refine (KS1.out _ _ _ HI1.out.below HI1.out.rd).mono ?_; rintro e w2 ⟨hb2, a2, c2, b2, d2, rfl, hk2, hn2⟩; have HI2 := Lib.hid (HI1.out.next hb2); have HQ2 := Lib.hid hk2; have HN2 := Lib.hid hn2; have k0 := HI2.out.blk.cell 0; have k1 := HI2.out.blk.cell 1; have k2 := HI2.out.blk.cell 2; have k3 := HI2.out.blk.cell 3; have k4 := HI2.out.blk.cell 4; have y0 := HI2.out.blk.frozen 0; have y1 := HI2.out.blk.frozen 1; have y2 := HI2.out.blk.frozen 2; have y3 := HI2.out.blk.frozen 3; have y4 := HI2.out.blk.frozen 4; simp only [List.getElem?_toArray, List.getElem?_cons_zero, List.getElem?_cons_succ] at k0 k1 k2 k3 k4; clear hb2 hk2 hn2 u0 u1 u2 u3 u4 z0 z1 z2 z3 z4)
      | (go_at_call 36; refine (KB.out).mono ?_; rintro e w1 ⟨hb1, a1, c1, b1, d1, rfl, hk1, hn1⟩; have HI1 := Lib.hid (RunIn.mk_ (r := ⟨dk, dn, ds, dr, dd⟩) hb1 (Below.refl _ _) hk1 hn1); have u0 := HI1.out.blk.cell 0; have u1 := HI1.out.blk.cell 1; have u2 := HI1.out.blk.cell 2; have u3 := HI1.out.blk.cell 3; have u4 := HI1.out.blk.cell 4; have z0 := HI1.out.blk.frozen 0; have z1 := HI1.out.blk.frozen 1; have z2 := HI1.out.blk.frozen 2; have z3 := HI1.out.blk.frozen 3; have z4 := HI1.out.blk.frozen 4; simp only [List.getElem?_toArray, List.getElem?_cons_zero, List.getElem?_cons_succ] at u0 u1 u2 u3 u4; clear hb1 hk1 hn1))
    refine bodyPost_ret (v := .tuple #[.slice none 0 0, .int .i64 e2]) (by simp [results, Tryz.results38, go_sem]) rfl ?_
    exact factsE_err HE.out (HI2.out.store (x := ⟨ek, en, es, er', ed⟩) (by simp) HQ2.out HN2.out).below
  subst he
  have HE := Lib.hid (A3.out rfl rfl)
  clear A2 A3
  go_enter Tryz.func38, Tryz.ntmps38
  go_wp2_with (first
    | (go_at_call 37; have hh := HI1.out; clear hh; refine (KS1.out _ _ _ HI1.out.below HI1.out.rd).mono ?_; rintro e w2 ⟨hb2, a2, c2, b2, d2, rfl, hk2, hn2⟩; have HI2 := Lib.hid (HI1.out.next hb2); have HQ2 := Lib.hid hk2; have HN2 := Lib.hid hn2; have k0 := HI2.out.blk.cell 0; have k1 := HI2.out.blk.cell 1; have k2 := HI2.out.blk.cell 2; have k3 := HI2.out.blk.cell 3; have k4 := HI2.out.blk.cell 4; have y0 := HI2.out.blk.frozen 0; have y1 := HI2.out.blk.frozen 1; have y2 := HI2.out.blk.frozen 2; have y3 := HI2.out.blk.frozen 3; have y4 := HI2.out.blk.frozen 4; simp only [List.getElem?_toArray, List.getElem?_cons_zero, List.getElem?_cons_succ] at k0 k1 k2 k3 k4; clear hb2 hk2 hn2 u0 u1 u2 u3 u4 z0 z1 z2 z3 z4)
    | (go_at_call 36; refine (KB.out).mono ?_; rintro e w1 ⟨hb1, a1, c1, b1, d1, rfl, hk1, hn1⟩; have HI1 := Lib.hid (RunIn.mk_ (r := ⟨dk, dn, ds, dr, dd⟩) hb1 (Below.refl _ _) hk1 hn1); have u0 := HI1.out.blk.cell 0; have u1 := HI1.out.blk.cell 1; have u2 := HI1.out.blk.cell 2; have u3 := HI1.out.blk.cell 3; have u4 := HI1.out.blk.cell 4; have z0 := HI1.out.blk.frozen 0; have z1 := HI1.out.blk.frozen 1; have z2 := HI1.out.blk.frozen 2; have z3 := HI1.out.blk.frozen 3; have z4 := HI1.out.blk.frozen 4; simp only [List.getElem?_toArray, List.getElem?_cons_zero, List.getElem?_cons_succ] at u0 u1 u2 u3 u4; clear hb1 hk1 hn1))
  have HST := Lib.hid (HI2.out.store (x := ⟨ek, en, es, er', ed⟩) (by simp) HQ2.out HN2.out)
  refine bodyPost_ret (v := .tuple #[.slice a2 ek.length c2, .int .i64 0]) (by simp [results, Tryz.results38, go_sem]) rfl ?_
  exact factsE_ok HE.out HST.out.below HST.out.rd.known

theorem sameRefl {S T : Nat → Prop} {va vb : Value} {a : List PFact} {w : World} (ha : RdFacts S w va a) (hb : RdFacts T w vb a) (n1 : a.length ≤ 1048576) (n2 : ∀ x ∈ a, x.args.length ≤ 1048576) :
    Calls Tryz.prog 39 #[va, vb] w fun e w' => e = .returned (.bool true) ∧ Below w.heap.size w w' :=
  (sameRef va vb a a w ha hb (by omega) (fun x hx => by have := n2 x hx; omega) (fun x hx => by have := n2 x hx; omega)).mono fun e w' ⟨he, hf⟩ => ⟨by rw [he, decide_eq_true rfl], hf.below⟩
set_option maxRecDepth 100000 in
set_option maxHeartbeats 4000000 in
theorem sameRunRefl (r : PRun) (kv nv kv' nv' : Value) (w : World) (h1 : RunRd w r kv nv) (h2 : RunRd w r kv' nv') (ns : RunSmall r) :
    Calls Tryz.prog 24 #[.agg #[kv, nv, .int .i64 r.stratum, .int .i64 r.rounds, .bool r.done], .agg #[kv', nv', .int .i64 r.stratum, .int .i64 r.rounds, .bool r.done]] w fun e w' => e = .returned (.bool true) ∧ Below w.heap.size w w' := by
  obtain ⟨rk, rn, rs, rr, rd⟩ := r
  have hb0 : Below w.heap.size w ((w.alloc (.cells #[kv, nv, .int .i64 rs, .int .i64 rr, .bool rd] 40)).alloc (.cells #[kv', nv', .int .i64 rs, .int .i64 rr, .bool rd] 40)) := ((Below.refl _ _).alloc (Nat.le_refl _) _).alloc (by simp) _
  have HB0 := Lib.hid hb0
  have hq1 := (Blk.new w 40 #[kv, nv, .int .i64 rs, .int .i64 rr, .bool rd]).alloc (.cells #[kv', nv', .int .i64 rs, .int .i64 rr, .bool rd] 40)
  have hq2 := Blk.at_ (w := w.alloc (.cells #[kv, nv, .int .i64 rs, .int .i64 rr, .bool rd] 40)) (t := 40) (cs := #[kv', nv', .int .i64 rs, .int .i64 rr, .bool rd]) (n := w.heap.size + 1) (by simp)
  have KS1 := Lib.hid (sameRefl (h1.known.up hb0) (h2.known.up hb0) ns.k1 ns.k2)
  have KS2 := Lib.hid (fun W (hW : Below w.heap.size w W) => sameRefl (h1.new.up hW) (h2.new.up hW) ns.n1 ns.n2)
  have HQ1 := Lib.hid hq1
  have HQ2 := Lib.hid hq2
  clear h1 h2 ns hb0 hq1 hq2
  go_enter Tryz.func24, Tryz.ntmps24
  have c0 := HQ1.out.cell 0; have c1 := HQ1.out.cell 1; have c2 := HQ1.out.cell 2; have c3 := HQ1.out.cell 3; have c4 := HQ1.out.cell 4
  have k0 := HQ2.out.cell 0; have k1 := HQ2.out.cell 1; have k2 := HQ2.out.cell 2; have k3 := HQ2.out.cell 3; have k4 := HQ2.out.cell 4
  simp only [List.getElem?_toArray, List.getElem?_cons_zero, List.getElem?_cons_succ] at c0 c1 c2 c3 c4 k0 k1 k2 k3 k4
  go_wp2_with (first
    | (go_at_call 39; have hh := HB2.out; clear hh; refine (KS2.out _ HB2.out).mono ?_; rintro e w3 ⟨rfl, hb3⟩; have HB3 := Lib.hid (HB2.out.trans (hb3.mono (Below.size HB2.out))); have HX3 := Lib.hid (HX2.out.below hb3 HX2.out.lt); have HY3 := Lib.hid (HY2.out.below hb3 HY2.out.lt); have m0 := HX3.out.cell 0; have m1 := HX3.out.cell 1; have m2 := HX3.out.cell 2; have m3 := HX3.out.cell 3; have m4 := HX3.out.cell 4; have n0 := HY3.out.cell 0; have n1 := HY3.out.cell 1; have n2 := HY3.out.cell 2; have n3 := HY3.out.cell 3; have n4 := HY3.out.cell 4; simp only [List.getElem?_toArray, List.getElem?_cons_zero, List.getElem?_cons_succ] at m0 m1 m2 m3 m4 n0 n1 n2 n3 n4; clear hb3)
    | (go_at_call 39; refine (KS1.out).mono ?_; rintro e w2 ⟨rfl, hb2⟩; have HB2 := Lib.hid (HB0.out.trans (hb2.mono (Below.size HB0.out))); have HX2 := Lib.hid (HQ1.out.below hb2 HQ1.out.lt); have HY2 := Lib.hid (HQ2.out.below hb2 HQ2.out.lt); have i0 := HX2.out.cell 0; have i1 := HX2.out.cell 1; have i2 := HX2.out.cell 2; have i3 := HX2.out.cell 3; have i4 := HX2.out.cell 4; have j0 := HY2.out.cell 0; have j1 := HY2.out.cell 1; have j2 := HY2.out.cell 2; have j3 := HY2.out.cell 3; have j4 := HY2.out.cell 4; simp only [List.getElem?_toArray, List.getElem?_cons_zero, List.getElem?_cons_succ] at i0 i1 i2 i3 i4 j0 j1 j2 j3 j4; clear hb2 c0 c1 c2 c3 c4 k0 k1 k2 k3 k4))
  go_ret
  exact ⟨ret_bool (by simp), HB3.out⟩
end Go.Proofs.YtgoaiohkodbadaaGreat
