/-
  THE TEXTS RoundW5, RoundW6, Alive6, RoundQ, one behind the other.
-/
import Derived.Test.YtbbiapgkcekabaaGreatPk13
import Derived.Test.YtbbiapgkcekabaaGreatPk14
import Derived.Test.YtbbiapgkcekabaaGreatPk15
import Derived.Test.YtbbiapgkcekabaaGreatPk16
/-
  THE WALKS OF round.Steps, All.
-/
namespace Go.Proofs.YtbbiapgkcekabaaGreat
open Go.RowKit

theorem steps_bad {st : List Int} {q : Int} {p : List PRule} {r : PRun} {n : Int} (h : runBad st q p r ≠ 0) : stepsRun st q p r n = (zeroRun, runBad st q p r) := by unfold stepsRun; rw [if_pos h]
theorem steps_range {st : List Int} {q : Int} {p : List PRule} {r : PRun} {n : Int} (h : runBad st q p r = 0) (hn : n < 0 ∨ 1000 < n) : stepsRun st q p r n = (zeroRun, 3) := by unfold stepsRun; rw [if_neg (by simpa using h), if_pos hn]
theorem steps_iter {st : List Int} {q : Int} {p : List PRule} {r : PRun} {n : Int} (h : runBad st q p r = 0) (h1 : ¬ n < 0) (h2 : ¬ 1000 < n) : stepsRun st q p r n = iterP st q p n.toNat r := by
  unfold stepsRun; rw [if_neg (by simpa using h), if_neg (fun e => e.elim h1 h2)]
theorem iter_done {st : List Int} {q : Int} {p : List PRule} {r : PRun} {k : Nat} (h : r.done = true) : iterP st q p (k + 1) r = (r, 0) := by rw [iterP, if_pos h]
theorem iter_err {st : List Int} {q : Int} {p : List PRule} {r : PRun} {k : Nat} (h : r.done = false) (he : (stepRun st q p r).2 ≠ 0) : iterP st q p (k + 1) r = (zeroRun, (stepRun st q p r).2) := by rw [iterP, if_neg (by simp [h]), if_pos he]
theorem iter_next {st : List Int} {q : Int} {p : List PRule} {r : PRun} {k : Nat} (h : r.done = false) (he : (stepRun st q p r).2 = 0) : iterP st q p (k + 1) r = iterP st q p k (stepRun st q p r).1 := by rw [iterP, if_neg (by simp [h]), if_neg (by simpa using he)]
/-- What a step makes is small. -/
theorem make_args {s : Int} {K N : List PFact} {m : Nat} : ∀ {ps : List (PRule × Int)} {o : List PFact}, (∀ r t, (r, t) ∈ ps → r.head.terms.length ≤ m) → (∀ z ∈ o, z.args.length ≤ m) → ∀ z ∈ (makeP s K N ps o).1, z.args.length ≤ m
  | [], o, _, ho, z, hz => ho z hz
  | (r, t) :: ps, o, hp, ho, z, hz => by
    have hp' : ∀ r t, (r, t) ∈ ps → r.head.terms.length ≤ m := fun r t h => hp r t (List.mem_cons_of_mem _ h)
    rw [makeP] at hz
    split at hz
    · exact make_args hp' ho z hz
    · split at hz
      · simp at hz
      · exact make_args hp' (fun y hy => (List.mem_append.1 hy).elim (ho y) fun h => by rw [newHeads_args y h]; exact hp r t (by simp)) z hz
theorem step_small {st : List Int} {q : Int × Int} {p : List PRule} {r : PRun} (n2 : ∀ r ∈ p, RuleSmall r) (ns : RunSmall r) : RunSmall (stepRun st q.1 p r).1 := by
  have hz : RunSmall zeroRun := ⟨by simp [zeroRun], by simp [zeroRun], by simp [zeroRun], by simp [zeroRun]⟩
  unfold stepRun
  split
  · exact hz
  unfold goodStep
  split
  · exact ns
  split
  · exact hz
  split
  · exact hz
  split
  · exact hz
  rename_i hl
  have hm : ∀ z ∈ (makeP r.stratum r.known r.new (p.zip st) []).1, z.args.length ≤ 1048576 := make_args (fun r t h => (n2 r (List.of_mem_zip h).1).h1) (by simp)
  generalize (makeP r.stratum r.known r.new (p.zip st) []).1 = o at *
  have h1 : ∀ z ∈ lessF (ofF o) r.known, z.args.length ≤ 1048576 := fun z hz => hm z ((mem_ofF z o).1 (List.mem_filter.1 hz).1)
  have h2 : ∀ z ∈ joinF r.known (lessF (ofF o) r.known), z.args.length ≤ 1048576 := fun z hz => ((mem_joinF _ _ z).1 hz).elim (ns.k2 z) (h1 z)
  have h3 : (lessF (ofF o) r.known).length ≤ (joinF r.known (lessF (ofF o) r.known)).length := rising_sub_le (List.Pairwise.sublist List.filter_sublist (ofF_rising o)) fun z hz => (mem_joinF _ _ z).2 (.inr hz)
  have hl' : (joinF r.known (lessF (ofF o) r.known)).length ≤ 200 := by
    have := hl
    omega
  unfold nextRun
  split
  · exact ⟨by show (joinF r.known (lessF (ofF o) r.known)).length ≤ _; omega, h2, by show (joinF r.known (lessF (ofF o) r.known)).length ≤ _; omega, h2⟩
  · exact ⟨by show (joinF r.known (lessF (ofF o) r.known)).length ≤ _; omega, h2, by show (lessF (ofF o) r.known).length ≤ _; omega, h1⟩

/-- A run that a call works on: its cells, and the result's. -/
def OnRun (w W : World) (r : PRun) : Prop := ∃ a c b d, SpW w W (.slice a r.known.length c) (.slice b r.new.length d) r.stratum r.rounds r.done ∧
  RdFacts (fun q => w.heap.size + 2 ≤ q) W (.slice a r.known.length c) r.known ∧ RdFacts (fun q => w.heap.size + 2 ≤ q) W (.slice b r.new.length d) r.new

theorem onRun_own {w W : World} {r : PRun} {kv nv : Value} {a b : Option Addr} {c d : Nat} (h : SpW w W kv nv r.stratum r.rounds r.done) (h1 : RdFacts (fun q => w.heap.size + 2 ≤ q) W (.slice a r.known.length c) r.known) (h2 : RdFacts (fun q => w.heap.size + 2 ≤ q) W (.slice b r.new.length d) r.new) :
    OnRun w ((W.setCell ⟨w.heap.size, 0, none⟩ (.slice a r.known.length c)).setCell ⟨w.heap.size, 1, none⟩ (.slice b r.new.length d)) r := by
  have hx : ¬ (fun q => w.heap.size + 2 ≤ q) w.heap.size := fun h => by have h' : w.heap.size + 2 ≤ w.heap.size := h; omega
  have hn : w.heap.size + 1 ≠ w.heap.size := by omega
  exact ⟨a, c, b, d, ⟨(h.below.setCell (Nat.le_refl _) _).setCell (Nat.le_refl _) _, (h.rb.set_ 0 (.slice a r.known.length c)).set_ 1 (.slice b r.new.length d), (h.q.far (p := ⟨w.heap.size, 0, none⟩) hn _).far (p := ⟨w.heap.size, 1, none⟩) hn _⟩,
    RdFacts.set_far (RdFacts.set_far h1 hx _) hx _, RdFacts.set_far (RdFacts.set_far h2 hx _) hx _⟩
theorem onRun_store {w W : World} {kv nv : Value} {s x : Int} {dn : Bool} {r : PRun} {a b : Option Addr} {c d : Nat} (h : SpW w W kv nv s x dn) (h1 : RdFacts (fun q => w.heap.size + 2 ≤ q) W (.slice a r.known.length c) r.known) (h2 : RdFacts (fun q => w.heap.size + 2 ≤ q) W (.slice b r.new.length d) r.new) :
    OnRun w (((((W.setCell ⟨w.heap.size, 0, none⟩ (.slice a r.known.length c)).setCell ⟨w.heap.size, 1, none⟩ (.slice b r.new.length d)).setCell ⟨w.heap.size, 2, none⟩ (.int .i64 r.stratum)).setCell ⟨w.heap.size, 3, none⟩ (.int .i64 r.rounds)).setCell ⟨w.heap.size, 4, none⟩ (.bool r.done)) r := by
  have hx : ¬ (fun q => w.heap.size + 2 ≤ q) w.heap.size := fun h => by have h' : w.heap.size + 2 ≤ w.heap.size := h; omega
  have hn : w.heap.size + 1 ≠ w.heap.size := by omega
  refine ⟨a, c, b, d, ⟨?_, ?_, ?_⟩, ?_, ?_⟩
  · exact ((((h.below.setCell (Nat.le_refl _) _).setCell (Nat.le_refl _) _).setCell (Nat.le_refl _) _).setCell (Nat.le_refl _) _).setCell (Nat.le_refl _) _
  · exact ((((h.rb.set_ 0 (.slice a r.known.length c)).set_ 1 (.slice b r.new.length d)).set_ 2 (.int .i64 r.stratum)).set_ 3 (.int .i64 r.rounds)).set_ 4 (.bool r.done)
  · exact ((((h.q.far (p := ⟨w.heap.size, 0, none⟩) hn _).far (p := ⟨w.heap.size, 1, none⟩) hn _).far (p := ⟨w.heap.size, 2, none⟩) hn _).far (p := ⟨w.heap.size, 3, none⟩) hn _).far (p := ⟨w.heap.size, 4, none⟩) hn _
  · exact RdFacts.set_far (RdFacts.set_far (RdFacts.set_far (RdFacts.set_far (RdFacts.set_far h1 hx _) hx _) hx _) hx _) hx _
  · exact RdFacts.set_far (RdFacts.set_far (RdFacts.set_far (RdFacts.set_far (RdFacts.set_far h2 hx _) hx _) hx _) hx _) hx _

attribute [local go_sem ↓] Go.wp_at_zero Go.wp_at_succ
set_option maxRecDepth 100000 in
set_option maxHeartbeats 16000000 in
theorem stepsRunCalls {S : Nat → Prop} (p : List PRule) (v : Value) (st : List Int) (q : Int × Int) (r : PRun) (kv nv : Value) (n : Int) (w : World) (hS : StrataIs p st q) (h : RdRules S w v p) (hr : RunRd w r kv nv)
    (n1 : p.length ≤ 1048576) (n2 : ∀ r ∈ p, RuleSmall r) (n3 : ∀ r ∈ p, NameSmall r) (ns : RunSmall r) :
    Calls Tryz.prog 34 #[v, .agg #[kv, nv, .int .i64 r.stratum, .int .i64 r.rounds, .bool r.done], .int .i64 n] w (RunPost (stepsRun st q.1 p r n) w) := by
  obtain ⟨rk, rn, rs, rr, rd⟩ := r
  obtain ⟨a, c, rfl, -, -, -⟩ := id h.form
  obtain ⟨ka, kc, rfl, -, -, -⟩ := id hr.known.form
  obtain ⟨na, nc, rfl, -, -, -⟩ := id hr.new.form
  obtain ⟨W0, hW0⟩ : ∃ W0 : World, (w.alloc (.cells #[.slice ka rk.length kc, .slice na rn.length nc, .int .i64 rs, .int .i64 rr, .bool rd] 47)).alloc (.cells #[.slice none 0 0, .slice none 0 0, .int .i64 0, .int .i64 0, .bool false] 47) = W0 := ⟨_, rfl⟩
  have hw0 : SpW w W0 (.slice ka rk.length kc) (.slice na rn.length nc) rs rr rd := by
    subst hW0
    exact ⟨((Below.refl _ _).alloc (Nat.le_refl _) _).alloc (by simp) _, (Blk.new w _ _).alloc _, heap_new_at (by simp)⟩
  have HW0 := Lib.hid hw0
  have H := Lib.hid h
  have HR := Lib.hid hr
  have N2 := Lib.hid n2
  have N3 := Lib.hid n3
  have NS := Lib.hid ns
  have HS := Lib.hid hS
  have KB := Lib.hid (runWrongCalls p _ st q ⟨rk, rn, rs, rr, rd⟩ (.slice ka rk.length kc) (.slice na rn.length nc) W0 hS (h.up hw0.below) (hr.up hw0.below) n1 n2 n3 ns)
  clear h hr n2 n3 ns hw0 hS
  have r0 := HW0.out.rb.cell 0; have r1 := HW0.out.rb.cell 1; have r2 := HW0.out.rb.cell 2; have r3 := HW0.out.rb.cell 3; have r4 := HW0.out.rb.cell 4
  simp only [List.getElem?_toArray, List.getElem?_cons_zero, List.getElem?_cons_succ] at r0 r1 r2 r3 r4
  have hq1 : w.heap.size ≤ w.heap.size + 1 := Nat.le_succ _
  have E1 := Lib.hid (steps_bad (st := st) (q := q.1) (p := p) (r := ⟨rk, rn, rs, rr, rd⟩) (n := n))
  have E2 := Lib.hid (steps_range (st := st) (q := q.1) (p := p) (r := ⟨rk, rn, rs, rr, rd⟩) (n := n))
  have E3 := Lib.hid (steps_iter (st := st) (q := q.1) (p := p) (r := ⟨rk, rn, rs, rr, rd⟩) (n := n))
  generalize runBad st q.1 p ⟨rk, rn, rs, rr, rd⟩ = x at *
  dsimp only at *
  by_cases hx : x = 0
  case neg =>
    have g1 : (x != 0) = true := by simpa using hx
    have HE := Lib.hid (E1.out hx)
    clear hx E1 E2 E3
    go_enter Tryz.func34, Tryz.ntmps34
    go_wp2_with (go_at_call 30; refine (KB.out).mono ?_; rintro e w1 ⟨rfl, hb1⟩; have HW1 := Lib.hid (HW0.out.next hb1); have c0 := HW1.out.q.cell 0; have c1 := HW1.out.q.cell 1; have c2 := HW1.out.q.cell 2; have c3 := HW1.out.q.cell 3; have c4 := HW1.out.q.cell 4; have z0 := HW1.out.q.frozen 0; have z1 := HW1.out.q.frozen 1; have z2 := HW1.out.q.frozen 2; have z3 := HW1.out.q.frozen 3; have z4 := HW1.out.q.frozen 4; simp only [List.getElem?_toArray, List.getElem?_cons_zero, List.getElem?_cons_succ] at c0 c1 c2 c3 c4; clear hb1 r0 r1 r2 r3 r4)
    refine bodyPost_ret (v := .tuple #[.agg #[.slice none 0 0, .slice none 0 0, .int .i64 0, .int .i64 0, .bool false], .int .i64 x]) (by simp [results, Tryz.results34, go_sem, c0, c1, c2, c3, c4]) rfl (run_ret_err HE.out ?_)
    exact ((((HW1.out.below.setCell hq1 _).setCell hq1 _).setCell hq1 _).setCell hq1 _).setCell hq1 _
  subst hx
  by_cases hrg : n < 0 ∨ 1000 < n
  · have HE := Lib.hid (E2.out rfl hrg)
    clear E1 E2 E3
    have hcs : n < 0 ∨ ¬ n < 0 ∧ 1000 < n := by omega
    clear hrg
    rcases hcs with h1 | ⟨h1, h2⟩
    all_goals
      go_enter Tryz.func34, Tryz.ntmps34
      go_wp2_with (go_at_call 30; refine (KB.out).mono ?_; rintro e w1 ⟨rfl, hb1⟩; have HW1 := Lib.hid (HW0.out.next hb1); have c0 := HW1.out.q.cell 0; have c1 := HW1.out.q.cell 1; have c2 := HW1.out.q.cell 2; have c3 := HW1.out.q.cell 3; have c4 := HW1.out.q.cell 4; have z0 := HW1.out.q.frozen 0; have z1 := HW1.out.q.frozen 1; have z2 := HW1.out.q.frozen 2; have z3 := HW1.out.q.frozen 3; have z4 := HW1.out.q.frozen 4; simp only [List.getElem?_toArray, List.getElem?_cons_zero, List.getElem?_cons_succ] at c0 c1 c2 c3 c4; clear hb1 r0 r1 r2 r3 r4)
      refine bodyPost_ret (v := .tuple #[.agg #[.slice none 0 0, .slice none 0 0, .int .i64 0, .int .i64 0, .bool false], .int .i64 3]) (by simp [results, Tryz.results34, go_sem, c0, c1, c2, c3, c4]) rfl (run_ret_err HE.out ?_)
      exact ((((HW1.out.below.setCell hq1 _).setCell hq1 _).setCell hq1 _).setCell hq1 _).setCell hq1 _
  obtain ⟨h1, h2⟩ : ¬ n < 0 ∧ ¬ 1000 < n := ⟨fun h => hrg (.inl h), fun h => hrg (.inr h)⟩
  have HE := Lib.hid (E3.out rfl h1 h2)
  clear E1 E2 E3 hrg
  obtain ⟨m, rfl⟩ : ∃ m : Nat, n = m := ⟨n.toNat, by omega⟩
  have KO1 := Lib.hid (fun W (hW : Below w.heap.size w W) => ownReads (RdFacts.up HR.out.known hW) NS.out.k1 NS.out.k2)
  have KO2 := Lib.hid (fun W (hW : Below w.heap.size w W) => ownReads (RdFacts.up HR.out.new hW) NS.out.n1 NS.out.n2)
  go_enter Tryz.func34, Tryz.ntmps34
  go_wp2_with (go_at_call 30; refine (KB.out).mono ?_; rintro e w1 ⟨rfl, hb1⟩; have HW1 := Lib.hid (HW0.out.next hb1); have k0 := HW1.out.rb.cell 0; have k1 := HW1.out.rb.cell 1; have z0 := HW1.out.rb.frozen 0; have z1 := HW1.out.rb.frozen 1; simp only [List.getElem?_toArray, List.getElem?_cons_zero, List.getElem?_cons_succ] at k0 k1; clear hb1 r0 r1 r2 r3 r4)
  clear hW0 KB HW0
  go_cut [] (fun wx => OnRun w wx ⟨rk, rn, rs, rr, rd⟩)
  case first =>
    go_region_law (first
      | (go_simp; go_at_call 54; have hh := HW3.out; clear hh; (with_reducible refine (KO2.out _ HW3.out.below).mono ?_); rintro e w4 ⟨⟨a4, c4', rfl, hr4⟩, hb4⟩; have HW4 := Lib.hid (HW3.out.next hb4); have HN4 := Lib.hid (hr4.more RFact.steady (S' := fun q => w.heap.size + 2 ≤ q) (fun q hq _ => by have h3 := HW3.out.lt; have h2 : w3.heap.size ≤ q := hq; omega)); have HK4 := Lib.hid (RdSlice.agree RFact.steady (Below.agree hb4) HK3.out); have y0 := HW4.out.rb.frozen 0; have y1 := HW4.out.rb.frozen 1; have l0 := HW4.out.rb.cell 0; have l1 := HW4.out.rb.cell 1; simp only [List.getElem?_toArray, List.getElem?_cons_zero, List.getElem?_cons_succ] at l0 l1; clear hb4 hr4)
      | (go_simp; go_at_call 54; (with_reducible refine (KO1.out _ HW1.out.below.drew).mono ?_); rintro e w3 ⟨⟨a3, c3', rfl, hr3⟩, hb3⟩; have HW3 := Lib.hid (HW1.out.drew.next hb3); have HK3 := Lib.hid (hr3.more RFact.steady (S' := fun q => w.heap.size + 2 ≤ q) (fun q hq _ => by have h3 := HW1.out.lt; have h2 : w1.heap.size ≤ q := hq; omega)); have j0 := HW3.out.rb.cell 0; have j1 := HW3.out.rb.cell 1; simp only [List.getElem?_toArray, List.getElem?_cons_zero, List.getElem?_cons_succ] at j0 j1; clear hb3 hr3))
    all_goals
      go_wp2_with fail
      go_meet
      exact onRun_own (r := ⟨rk, rn, rs, rr, rd⟩) HW4.out HK4.out HN4.out
  have HON := Lib.hid hcut
  clear hcut k0 k1 z0 z1 KO1 KO2 HW1
  have HEI := Lib.hid (show stepsRun st q.1 p ⟨rk, rn, rs, rr, rd⟩ (m : Int) = iterP st q.1 p (m - 0) ⟨rk, rn, rs, rr, rd⟩ from HE.out)
  clear HE h1
  go_wp2
  go_loopw [34] (fun i wr => ∃ (j : Nat) (cur : PRun), j ≤ m ∧ i = .int .i64 j ∧ Hid (OnRun w wr cur) ∧ Hid (RunSmall cur) ∧ Hid (stepsRun st q.1 p ⟨rk, rn, rs, rr, rd⟩ (m : Int) = iterP st q.1 p (m - j) cur)) (fun i _ => m - (intOf i).toNat)
  case atStart => exact ⟨0, ⟨rk, rn, rs, rr, rd⟩, Nat.zero_le _, rfl, HON, NS, HEI⟩
  case round =>
    clear HON HEI
    obtain ⟨j, ⟨ck, cn, cs, cr, cd⟩, hj, rfl, HO, HNS, HE⟩ := hrel
    obtain ⟨a5, c5, b5, d5, hw5, hk5, hn5⟩ := HO.out
    have HW5 := Lib.hid hw5
    have HK5 := Lib.hid hk5
    have HN5 := Lib.hid hn5
    clear hw5 hk5 hn5 HO
    have u0 := HW5.out.rb.cell 0; have u1 := HW5.out.rb.cell 1; have u2 := HW5.out.rb.cell 2; have u3 := HW5.out.rb.cell 3; have u4 := HW5.out.rb.cell 4
    have c0 := HW5.out.q.cell 0; have c1 := HW5.out.q.cell 1; have c2 := HW5.out.q.cell 2; have c3 := HW5.out.q.cell 3; have c4 := HW5.out.q.cell 4
    have z0 := HW5.out.q.frozen 0; have z1 := HW5.out.q.frozen 1; have z2 := HW5.out.q.frozen 2; have z3 := HW5.out.q.frozen 3; have z4 := HW5.out.q.frozen 4
    simp only [List.getElem?_toArray, List.getElem?_cons_zero, List.getElem?_cons_succ] at u0 u1 u2 u3 u4 c0 c1 c2 c3 c4
    have hnq : ¬ (fun q => w.heap.size + 2 ≤ q) (w.heap.size + 1) := fun h => by have h' : w.heap.size + 2 ≤ w.heap.size + 1 := h; omega
    have HEND := Lib.hid (show iterP st q.1 p (m - j) ⟨ck, cn, cs, cr, cd⟩ = (⟨ck, cn, cs, cr, cd⟩, 0) → RunPost (stepsRun st q.1 p ⟨rk, rn, rs, rr, rd⟩ (m : Int)) w (.returned (.tuple #[.agg #[.slice a5 ck.length c5, .slice b5 cn.length d5, .int .i64 cs, .int .i64 cr, .bool cd], .int .i64 0])) (((((wr.setCell ⟨w.heap.size + 1, 0, none⟩ (.slice a5 ck.length c5)).setCell ⟨w.heap.size + 1, 1, none⟩ (.slice b5 cn.length d5)).setCell ⟨w.heap.size + 1, 2, none⟩ (.int .i64 cs)).setCell ⟨w.heap.size + 1, 3, none⟩ (.int .i64 cr)).setCell ⟨w.heap.size + 1, 4, none⟩ (.bool cd)) from fun he => by
      refine run_ret_ok (HE.out.trans he) ?_ ?_ ?_
      · exact ((((HW5.out.below.setCell hq1 _).setCell hq1 _).setCell hq1 _).setCell hq1 _).setCell hq1 _
      · exact RdFacts.newer (RdFacts.set_far (RdFacts.set_far (RdFacts.set_far (RdFacts.set_far (RdFacts.set_far HK5.out hnq _) hnq _) hnq _) hnq _) hnq _) (fun b hb => by have h' : w.heap.size + 2 ≤ b := hb; omega)
      · exact RdFacts.newer (RdFacts.set_far (RdFacts.set_far (RdFacts.set_far (RdFacts.set_far (RdFacts.set_far HN5.out hnq _) hnq _) hnq _) hnq _) hnq _) (fun b hb => by have h' : w.heap.size + 2 ≤ b := hb; omega))
    by_cases hlt : j < m
    · obtain ⟨l, hl⟩ : ∃ l, m - j = l + 1 := ⟨m - j - 1, by omega⟩
      have HL := Lib.hid (show m - (j + 1) = l by omega)
      rw [hl] at HE HEND
      clear hl
      cases cd
      case true =>
        have HP := Lib.hid (HEND.out (iter_done rfl))
        clear HEND HE
        go_wp2
        refine bodyPost_ret (v := .tuple #[.agg #[.slice a5 ck.length c5, .slice b5 cn.length d5, .int .i64 cs, .int .i64 cr, .bool true], .int .i64 0]) (by simp [results, Tryz.results34, go_sem, c0, c1, c2, c3, c4]) rfl HP.out
      have KP := Lib.hid (stepRunCalls p (.slice a p.length c) st q ⟨ck, cn, cs, cr, false⟩ (.slice a5 ck.length c5) (.slice b5 cn.length d5) wr HS.out (H.out.up HW5.out.below) ⟨HK5.out.any, HN5.out.any⟩ n1 N2.out N3.out HNS.out)
      have HSM := Lib.hid (step_small (st := st) (q := q) (p := p) N2.out HNS.out)
      have I1 := Lib.hid (fun he => HE.out.trans (iter_err rfl he))
      have I2 := Lib.hid (fun he => HE.out.trans (iter_next rfl he))
      clear HE HEND
      generalize stepRun st q.1 p ⟨ck, cn, cs, cr, false⟩ = x at *
      obtain ⟨⟨dk, dn, ds, dr, dd⟩, er⟩ := x
      dsimp only at *
      by_cases he : er = 0
      case neg =>
        have g2 : (er != 0) = true := by simpa using he
        have HEE := Lib.hid (I1.out he)
        clear he I1 I2
        go_wp2_with (go_at_call 32; refine (KP.out).mono ?_; rintro e w6 ⟨hb6, a6, c6, b6, d6, rfl, hk6, hn6⟩; have HW6 := Lib.hid ((HW5.out.next hb6).alloc (.cells #[.slice a6 dk.length c6, .slice b6 dn.length d6, .int .i64 ds, .int .i64 dr, .bool dd] 47)); have l0 := HW6.out.q.cell 0; have l1 := HW6.out.q.cell 1; have l2 := HW6.out.q.cell 2; have l3 := HW6.out.q.cell 3; have l4 := HW6.out.q.cell 4; have y0 := HW6.out.q.frozen 0; have y1 := HW6.out.q.frozen 1; have y2 := HW6.out.q.frozen 2; have y3 := HW6.out.q.frozen 3; have y4 := HW6.out.q.frozen 4; simp only [List.getElem?_toArray, List.getElem?_cons_zero, List.getElem?_cons_succ] at l0 l1 l2 l3 l4; clear hb6 hk6 hn6 u0 u1 u2 u3 u4 c0 c1 c2 c3 c4 z0 z1 z2 z3 z4)
        refine bodyPost_ret (v := .tuple #[.agg #[.slice none 0 0, .slice none 0 0, .int .i64 0, .int .i64 0, .bool false], .int .i64 er]) (by simp [results, Tryz.results34, go_sem, l0, l1, l2, l3, l4]) rfl (run_ret_err HEE.out ?_)
        exact ((((HW6.out.below.setCell hq1 _).setCell hq1 _).setCell hq1 _).setCell hq1 _).setCell hq1 _
      subst he
      have HEE := Lib.hid (show stepsRun st q.1 p ⟨rk, rn, rs, rr, rd⟩ (m : Int) = iterP st q.1 p (m - (j + 1)) ⟨dk, dn, ds, dr, dd⟩ by rw [HL.out]; exact I2.out rfl)
      clear I1 I2
      go_wp2_with (go_at_call 32; refine (KP.out).mono ?_; rintro e w6 ⟨hb6, a6, c6, b6, d6, rfl, hk6, hn6⟩; have hw6 := (HW5.out.next hb6).alloc (.cells #[.slice a6 dk.length c6, .slice b6 dn.length d6, .int .i64 ds, .int .i64 dr, .bool dd] 47); have hw5l := HW5.out.lt; have hk7 : RdFacts (fun q => w.heap.size + 2 ≤ q) (w6.alloc (.cells #[.slice a6 dk.length c6, .slice b6 dn.length d6, .int .i64 ds, .int .i64 dr, .bool dd] 47)) (.slice a6 dk.length c6) dk := (RdSlice.agree RFact.steady ((Agree.refl _ _).alloc _) hk6).more RFact.steady (fun b hb _ => by have h' : wr.heap.size ≤ b := hb; omega); have hn7 : RdFacts (fun q => w.heap.size + 2 ≤ q) (w6.alloc (.cells #[.slice a6 dk.length c6, .slice b6 dn.length d6, .int .i64 ds, .int .i64 dr, .bool dd] 47)) (.slice b6 dn.length d6) dn := (RdSlice.agree RFact.steady ((Agree.refl _ _).alloc _) hn6).more RFact.steady (fun b hb _ => by have h' : wr.heap.size ≤ b := hb; omega); have HON := Lib.hid (onRun_store (r := ⟨dk, dn, ds, dr, dd⟩) hw6 hk7 hn7); have l0 := hw6.rb.cell 0; have l1 := hw6.rb.cell 1; have l2 := hw6.rb.cell 2; have l3 := hw6.rb.cell 3; have l4 := hw6.rb.cell 4; have y0 := hw6.rb.frozen 0; have y1 := hw6.rb.frozen 1; have y2 := hw6.rb.frozen 2; have y3 := hw6.rb.frozen 3; have y4 := hw6.rb.frozen 4; simp only [List.getElem?_toArray, List.getElem?_cons_zero, List.getElem?_cons_succ] at l0 l1 l2 l3 l4; clear hb6 hk6 hn6 hw6 hk7 hn7 u0 u1 u2 u3 u4 c0 c1 c2 c3 c4 z0 z1 z2 z3 z4)
      go_roundw
      case rel => exact ⟨j + 1, ⟨dk, dn, ds, dr, dd⟩, by omega, by go_num, HON, HSM, HEE⟩
      case measure => simp [intOf]; omega
    · have HP := Lib.hid (HEND.out (by rw [show m - j = 0 by omega]; rfl))
      clear HEND HE
      go_wp2
      refine bodyPost_ret (v := .tuple #[.agg #[.slice a5 ck.length c5, .slice b5 cn.length d5, .int .i64 cs, .int .i64 cr, .bool cd], .int .i64 0]) (by simp [results, Tryz.results34, go_sem, c0, c1, c2, c3, c4]) rfl HP.out
end Go.Proofs.YtbbiapgkcekabaaGreat

/-
  THE WALKS OF round.All, and of cororef4.SameRun at runs that are the same.
-/
namespace Go.Proofs.YtbbiapgkcekabaaGreat
open Go.RowKit

/-- Facts, and an error, that a call answers. -/
def FactsEPost (r : List PFact × Int) (w : World) (e : Ending) (w' : World) : Prop :=
  Below w.heap.size w w' ∧ ∃ a c, e = .returned (.tuple #[.slice a r.1.length c, .int .i64 r.2]) ∧ RdFacts (fun _ => True) w' (.slice a r.1.length c) r.1
theorem factsE_err {r : List PFact × Int} {n : Int} {w w' : World} (h : r = ([], n)) (hb : Below w.heap.size w w') : FactsEPost r w (.returned (.tuple #[.slice none 0 0, .int .i64 n])) w' := by
  subst h; exact ⟨hb, none, 0, rfl, RdFacts.nil⟩
theorem factsE_ok {r : List PFact × Int} {l : List PFact} {w w' : World} {a : Option Addr} {c : Nat} (h : r = (l, 0)) (hb : Below w.heap.size w w') (hr : RdFacts (fun _ => True) w' (.slice a l.length c) l) : FactsEPost r w (.returned (.tuple #[.slice a l.length c, .int .i64 0])) w' := by
  subst h; exact ⟨hb, a, c, rfl, hr⟩
theorem all_err1 {st : List Int} {q : Int} {p : List PRule} {l : List PFact} (h : (beginP st q p l).2 ≠ 0) : allRun st q p l = ([], (beginP st q p l).2) := by unfold allRun; rw [if_pos h]
theorem all_err2 {st : List Int} {q : Int} {p : List PRule} {l : List PFact} (h : (beginP st q p l).2 = 0) (h2 : (stepsRun st q p (beginP st q p l).1 1000).2 ≠ 0) : allRun st q p l = ([], (stepsRun st q p (beginP st q p l).1 1000).2) := by
  unfold allRun; rw [if_neg (by simpa using h), if_pos h2]
theorem all_ok {st : List Int} {q : Int} {p : List PRule} {l : List PFact} (h : (beginP st q p l).2 = 0) (h2 : (stepsRun st q p (beginP st q p l).1 1000).2 = 0) : allRun st q p l = ((stepsRun st q p (beginP st q p l).1 1000).1.known, 0) := by
  unfold allRun; rw [if_neg (by simpa using h), if_neg (by simpa using h2)]
theorem zero_small : RunSmall zeroRun := ⟨by simp [zeroRun], by simp [zeroRun], by simp [zeroRun], by simp [zeroRun]⟩
theorem begin_small {st : List Int} {q : Int} {p : List PRule} {l : List PFact} (n4 : l.length ≤ 1048576) (n5 : ∀ x ∈ l, x.args.length ≤ 1048576) : RunSmall (beginP st q p l).1 := by
  unfold beginP
  split
  · exact zero_small
  split
  · exact zero_small
  · exact ⟨n4, n5, n4, n5⟩
/-- A run that a call made, in a block of its own. -/
structure RunIn (w W : World) (b : Nat) (kv nv : Value) (r : PRun) : Prop where
  below : Below w.heap.size w W
  old : w.heap.size ≤ b
  blk : Blk W b 47 #[kv, nv, .int .i64 r.stratum, .int .i64 r.rounds, .bool r.done]
  rd : RunRd W r kv nv
theorem RunIn.mk_ {w w1 W : World} {kv nv : Value} {r : PRun} {S S2 : Nat → Prop} (hw : Below w.heap.size w w1) (hb : Below w1.heap.size w1 W) (hk : RdFacts S W kv r.known) (hn : RdFacts S2 W nv r.new) :
    RunIn w (W.alloc (.cells #[kv, nv, .int .i64 r.stratum, .int .i64 r.rounds, .bool r.done] 47)) W.heap.size kv nv r := by
  have hWW := hw.trans (hb.mono (Below.size hw))
  exact ⟨hWW.alloc (Below.size hWW) _, Below.size hWW, Blk.new W _ _, ⟨RdFacts.any (RdSlice.agree RFact.steady ((Agree.refl _ _).alloc _) hk), RdFacts.any (RdSlice.agree RFact.steady ((Agree.refl _ _).alloc _) hn)⟩⟩
theorem RunIn.next {w W W' : World} {b : Nat} {kv nv : Value} {r : PRun} (h : RunIn w W b kv nv r) (hb : Below W.heap.size W W') : RunIn w W' b kv nv r :=
  ⟨h.below.trans (hb.mono (Below.size h.below)), h.old, h.blk.below hb h.blk.lt, h.rd.up hb⟩
theorem RunIn.alloc {w W : World} {b : Nat} {kv nv : Value} {r : PRun} (h : RunIn w W b kv nv r) (o : Obj) : RunIn w (W.alloc o) b kv nv r := h.next ((Below.refl _ _).alloc (Nat.le_refl _) o)
/-- Another run in its place. -/
theorem RunIn.store {w W : World} {b : Nat} {kv nv ev mv : Value} {r x : PRun} {w0 : World} (h : RunIn w W b kv nv r) (hb : b < w0.heap.size) (hk : RdFacts (New w0) W ev x.known) (hn : RdFacts (New w0) W mv x.new) :
    RunIn w (((((W.setCell ⟨b, 0, none⟩ ev).setCell ⟨b, 1, none⟩ mv).setCell ⟨b, 2, none⟩ (.int .i64 x.stratum)).setCell ⟨b, 3, none⟩ (.int .i64 x.rounds)).setCell ⟨b, 4, none⟩ (.bool x.done)) b ev mv x := by
  have ho := h.old
  have hnw : ¬ New w0 b := fun h => by have h' : w0.heap.size ≤ b := h; omega
  exact ⟨((((h.below.setCell ho _).setCell ho _).setCell ho _).setCell ho _).setCell ho _, ho,
    ((((h.blk.set_ 0 _).set_ 1 _).set_ 2 _).set_ 3 _).set_ 4 _,
    ⟨(RdFacts.set_far (RdFacts.set_far (RdFacts.set_far (RdFacts.set_far (RdFacts.set_far hk hnw _) hnw _) hnw _) hnw _) hnw _).any, (RdFacts.set_far (RdFacts.set_far (RdFacts.set_far (RdFacts.set_far (RdFacts.set_far hn hnw _) hnw _) hnw _) hnw _) hnw _).any⟩⟩
theorem run_known {x : PRun × Int} {k n : List PFact} {s r e0 : Int} {dn : Bool} {n1 n2 : Nat} {w w' : World} {e : Ending} (hx : x = (⟨k, n, s, r, dn⟩, e0)) (h1 : k.length = n1) (h2 : n.length = n2) (h : RunPost x w e w') :
    Below w.heap.size w w' ∧ ∃ a c b d, e = .returned (.tuple #[.agg #[.slice a n1 c, .slice b n2 d, .int .i64 s, .int .i64 r, .bool dn], .int .i64 e0]) ∧ RdFacts (New w) w' (.slice a n1 c) k ∧ RdFacts (New w) w' (.slice b n2 d) n := by
  subst hx; subst h1; subst h2; exact h
theorem factsE_known {x : List PFact × Int} {k : List PFact} {e0 : Int} {n1 : Nat} {w w' : World} {e : Ending} (hx : x = (k, e0)) (h1 : k.length = n1) (h : FactsEPost x w e w') :
    Below w.heap.size w w' ∧ ∃ a c, e = .returned (.tuple #[.slice a n1 c, .int .i64 e0]) ∧ RdFacts (fun _ => True) w' (.slice a n1 c) k := by
  subst hx; subst h1; exact h

set_option maxRecDepth 100000 in
set_option maxHeartbeats 8000000 in
theorem allRunCalls {S S2 : Nat → Prop} (p : List PRule) (v fv : Value) (st : List Int) (q : Int × Int) (l : List PFact) (w : World) (hS : StrataIs p st q) (h : RdRules S w v p) (hf : RdFacts S2 w fv l)
    (n1 : p.length ≤ 1048576) (n2 : ∀ r ∈ p, RuleSmall r) (n3 : ∀ r ∈ p, NameSmall r) (n4 : l.length ≤ 1048576) (n5 : ∀ x ∈ l, x.args.length ≤ 1048576) :
    Calls Tryz.prog 47 #[v, fv] w (FactsEPost (allRun st q.1 p l) w) := by
  obtain ⟨a, c, rfl, -, -, -⟩ := id h.form
  obtain ⟨fa, fc, rfl, -, -, -⟩ := id hf.form
  have KB := Lib.hid (beginCalls p _ _ st q l w hS h hf n1 n2 n3 n4 n5)
  have KS := Lib.hid (fun W kv nv (r : PRun) (hW : Below w.heap.size w W) (hr : RunRd W r kv nv) hs => stepsRunCalls p (.slice a p.length c) st q r kv nv 1000 W hS (h.up hW) hr n1 n2 n3 hs)
  have HBS := Lib.hid (begin_small (st := st) (q := q.1) (p := p) n4 n5)
  have A1 := Lib.hid (all_err1 (st := st) (q := q.1) (p := p) (l := l))
  have A2 := Lib.hid (all_err2 (st := st) (q := q.1) (p := p) (l := l))
  have A3 := Lib.hid (all_ok (st := st) (q := q.1) (p := p) (l := l))
  clear h hf n2 n3 n5 hS
  generalize beginP st q.1 p l = x at *
  obtain ⟨⟨dk, dn, ds, dr, dd⟩, er⟩ := x
  dsimp only at *
  by_cases he : er = 0
  case neg =>
    have g1 : (er != 0) = true := by simpa using he
    have HE := Lib.hid (A1.out he)
    clear he A1 A2 A3 KS
    go_enter Tryz.func47, Tryz.ntmps47
    go_wp2_with (go_at_call 27; refine (KB.out).mono ?_; rintro e w1 ⟨hb1, a1, c1, b1, d1, rfl, hk1, hn1⟩; have HB1 := Lib.hid hb1; clear hb1 hk1 hn1)
    refine bodyPost_ret (v := .tuple #[.slice none 0 0, .int .i64 er]) (by simp [results, Tryz.results47, go_sem]) rfl ?_
    exact factsE_err HE.out (HB1.out.alloc (Below.size HB1.out) _)
  subst he
  have KS1 := Lib.hid (fun W kv nv hW hr => KS.out W kv nv ⟨dk, dn, ds, dr, dd⟩ hW hr HBS.out)
  clear KS A1
  generalize stepsRun st q.1 p ⟨dk, dn, ds, dr, dd⟩ 1000 = y at *
  obtain ⟨⟨ek, en, es, er', ed⟩, e2⟩ := y
  dsimp only at *
  by_cases he : e2 = 0
  case neg =>
    have g1 : (e2 != 0) = true := by simpa using he
    have HE := Lib.hid (A2.out rfl he)
    clear he A2 A3
    go_enter Tryz.func47, Tryz.ntmps47
    go_wp2_with (first
      | (go_at_call 34; have hh := HI1.out; clear hh; refine (KS1.out _ _ _ HI1.out.below HI1.out.rd).mono ?_; rintro e w2 ⟨hb2, a2, c2, b2, d2, rfl, hk2, hn2⟩; have HI2 := Lib.hid (HI1.out.next hb2); have HQ2 := Lib.hid hk2; have HN2 := Lib.hid hn2; have k0 := HI2.out.blk.cell 0; have k1 := HI2.out.blk.cell 1; have k2 := HI2.out.blk.cell 2; have k3 := HI2.out.blk.cell 3; have k4 := HI2.out.blk.cell 4; have y0 := HI2.out.blk.frozen 0; have y1 := HI2.out.blk.frozen 1; have y2 := HI2.out.blk.frozen 2; have y3 := HI2.out.blk.frozen 3; have y4 := HI2.out.blk.frozen 4; simp only [List.getElem?_toArray, List.getElem?_cons_zero, List.getElem?_cons_succ] at k0 k1 k2 k3 k4; clear hb2 hk2 hn2 u0 u1 u2 u3 u4 z0 z1 z2 z3 z4)
      | (go_at_call 27; refine (KB.out).mono ?_; rintro e w1 ⟨hb1, a1, c1, b1, d1, rfl, hk1, hn1⟩; have HI1 := Lib.hid (RunIn.mk_ (r := ⟨dk, dn, ds, dr, dd⟩) hb1 (Below.refl _ _) hk1 hn1); have u0 := HI1.out.blk.cell 0; have u1 := HI1.out.blk.cell 1; have u2 := HI1.out.blk.cell 2; have u3 := HI1.out.blk.cell 3; have u4 := HI1.out.blk.cell 4; have z0 := HI1.out.blk.frozen 0; have z1 := HI1.out.blk.frozen 1; have z2 := HI1.out.blk.frozen 2; have z3 := HI1.out.blk.frozen 3; have z4 := HI1.out.blk.frozen 4; simp only [List.getElem?_toArray, List.getElem?_cons_zero, List.getElem?_cons_succ] at u0 u1 u2 u3 u4; clear hb1 hk1 hn1))
    refine bodyPost_ret (v := .tuple #[.slice none 0 0, .int .i64 e2]) (by simp [results, Tryz.results47, go_sem]) rfl ?_
    exact factsE_err HE.out (HI2.out.store (x := ⟨ek, en, es, er', ed⟩) (by simp) HQ2.out HN2.out).below
  subst he
  have HE := Lib.hid (A3.out rfl rfl)
  clear A2 A3
  go_enter Tryz.func47, Tryz.ntmps47
  go_wp2_with (first
    | (go_at_call 34; have hh := HI1.out; clear hh; refine (KS1.out _ _ _ HI1.out.below HI1.out.rd).mono ?_; rintro e w2 ⟨hb2, a2, c2, b2, d2, rfl, hk2, hn2⟩; have HI2 := Lib.hid (HI1.out.next hb2); have HQ2 := Lib.hid hk2; have HN2 := Lib.hid hn2; have k0 := HI2.out.blk.cell 0; have k1 := HI2.out.blk.cell 1; have k2 := HI2.out.blk.cell 2; have k3 := HI2.out.blk.cell 3; have k4 := HI2.out.blk.cell 4; have y0 := HI2.out.blk.frozen 0; have y1 := HI2.out.blk.frozen 1; have y2 := HI2.out.blk.frozen 2; have y3 := HI2.out.blk.frozen 3; have y4 := HI2.out.blk.frozen 4; simp only [List.getElem?_toArray, List.getElem?_cons_zero, List.getElem?_cons_succ] at k0 k1 k2 k3 k4; clear hb2 hk2 hn2 u0 u1 u2 u3 u4 z0 z1 z2 z3 z4)
    | (go_at_call 27; refine (KB.out).mono ?_; rintro e w1 ⟨hb1, a1, c1, b1, d1, rfl, hk1, hn1⟩; have HI1 := Lib.hid (RunIn.mk_ (r := ⟨dk, dn, ds, dr, dd⟩) hb1 (Below.refl _ _) hk1 hn1); have u0 := HI1.out.blk.cell 0; have u1 := HI1.out.blk.cell 1; have u2 := HI1.out.blk.cell 2; have u3 := HI1.out.blk.cell 3; have u4 := HI1.out.blk.cell 4; have z0 := HI1.out.blk.frozen 0; have z1 := HI1.out.blk.frozen 1; have z2 := HI1.out.blk.frozen 2; have z3 := HI1.out.blk.frozen 3; have z4 := HI1.out.blk.frozen 4; simp only [List.getElem?_toArray, List.getElem?_cons_zero, List.getElem?_cons_succ] at u0 u1 u2 u3 u4; clear hb1 hk1 hn1))
  have HST := Lib.hid (HI2.out.store (x := ⟨ek, en, es, er', ed⟩) (by simp) HQ2.out HN2.out)
  refine bodyPost_ret (v := .tuple #[.slice a2 ek.length c2, .int .i64 0]) (by simp [results, Tryz.results47, go_sem]) rfl ?_
  exact factsE_ok HE.out HST.out.below HST.out.rd.known

theorem sameRefl {S T : Nat → Prop} {va vb : Value} {a : List PFact} {w : World} (ha : RdFacts S w va a) (hb : RdFacts T w vb a) (n1 : a.length ≤ 1048576) (n2 : ∀ x ∈ a, x.args.length ≤ 1048576) :
    Calls Tryz.prog 19 #[va, vb] w fun e w' => e = .returned (.bool true) ∧ Below w.heap.size w w' :=
  (sameRef va vb a a w ha hb (by omega) (fun x hx => by have := n2 x hx; omega) (fun x hx => by have := n2 x hx; omega)).mono fun e w' ⟨he, hf⟩ => ⟨by rw [he, decide_eq_true rfl], hf.below⟩
set_option maxRecDepth 100000 in
set_option maxHeartbeats 4000000 in
theorem sameRunRefl (r : PRun) (kv nv kv' nv' : Value) (w : World) (h1 : RunRd w r kv nv) (h2 : RunRd w r kv' nv') (ns : RunSmall r) :
    Calls Tryz.prog 29 #[.agg #[kv, nv, .int .i64 r.stratum, .int .i64 r.rounds, .bool r.done], .agg #[kv', nv', .int .i64 r.stratum, .int .i64 r.rounds, .bool r.done]] w fun e w' => e = .returned (.bool true) ∧ Below w.heap.size w w' := by
  obtain ⟨rk, rn, rs, rr, rd⟩ := r
  have hb0 : Below w.heap.size w ((w.alloc (.cells #[kv, nv, .int .i64 rs, .int .i64 rr, .bool rd] 47)).alloc (.cells #[kv', nv', .int .i64 rs, .int .i64 rr, .bool rd] 47)) := ((Below.refl _ _).alloc (Nat.le_refl _) _).alloc (by simp) _
  have HB0 := Lib.hid hb0
  have hq1 := (Blk.new w 47 #[kv, nv, .int .i64 rs, .int .i64 rr, .bool rd]).alloc (.cells #[kv', nv', .int .i64 rs, .int .i64 rr, .bool rd] 47)
  have hq2 := Blk.at_ (w := w.alloc (.cells #[kv, nv, .int .i64 rs, .int .i64 rr, .bool rd] 47)) (t := 47) (cs := #[kv', nv', .int .i64 rs, .int .i64 rr, .bool rd]) (n := w.heap.size + 1) (by simp)
  have KS1 := Lib.hid (sameRefl (h1.known.up hb0) (h2.known.up hb0) ns.k1 ns.k2)
  have KS2 := Lib.hid (fun W (hW : Below w.heap.size w W) => sameRefl (h1.new.up hW) (h2.new.up hW) ns.n1 ns.n2)
  have HQ1 := Lib.hid hq1
  have HQ2 := Lib.hid hq2
  clear h1 h2 ns hb0 hq1 hq2
  go_enter Tryz.func29, Tryz.ntmps29
  have c0 := HQ1.out.cell 0; have c1 := HQ1.out.cell 1; have c2 := HQ1.out.cell 2; have c3 := HQ1.out.cell 3; have c4 := HQ1.out.cell 4
  have k0 := HQ2.out.cell 0; have k1 := HQ2.out.cell 1; have k2 := HQ2.out.cell 2; have k3 := HQ2.out.cell 3; have k4 := HQ2.out.cell 4
  simp only [List.getElem?_toArray, List.getElem?_cons_zero, List.getElem?_cons_succ] at c0 c1 c2 c3 c4 k0 k1 k2 k3 k4
  go_wp2_with (first
    | (go_at_call 19; have hh := HB2.out; clear hh; refine (KS2.out _ HB2.out).mono ?_; rintro e w3 ⟨rfl, hb3⟩; have HB3 := Lib.hid (HB2.out.trans (hb3.mono (Below.size HB2.out))); have HX3 := Lib.hid (HX2.out.below hb3 HX2.out.lt); have HY3 := Lib.hid (HY2.out.below hb3 HY2.out.lt); have m0 := HX3.out.cell 0; have m1 := HX3.out.cell 1; have m2 := HX3.out.cell 2; have m3 := HX3.out.cell 3; have m4 := HX3.out.cell 4; have n0 := HY3.out.cell 0; have n1 := HY3.out.cell 1; have n2 := HY3.out.cell 2; have n3 := HY3.out.cell 3; have n4 := HY3.out.cell 4; simp only [List.getElem?_toArray, List.getElem?_cons_zero, List.getElem?_cons_succ] at m0 m1 m2 m3 m4 n0 n1 n2 n3 n4; clear hb3)
    | (go_at_call 19; refine (KS1.out).mono ?_; rintro e w2 ⟨rfl, hb2⟩; have HB2 := Lib.hid (HB0.out.trans (hb2.mono (Below.size HB0.out))); have HX2 := Lib.hid (HQ1.out.below hb2 HQ1.out.lt); have HY2 := Lib.hid (HQ2.out.below hb2 HQ2.out.lt); have i0 := HX2.out.cell 0; have i1 := HX2.out.cell 1; have i2 := HX2.out.cell 2; have i3 := HX2.out.cell 3; have i4 := HX2.out.cell 4; have j0 := HY2.out.cell 0; have j1 := HY2.out.cell 1; have j2 := HY2.out.cell 2; have j3 := HY2.out.cell 3; have j4 := HY2.out.cell 4; simp only [List.getElem?_toArray, List.getElem?_cons_zero, List.getElem?_cons_succ] at i0 i1 i2 i3 i4 j0 j1 j2 j3 j4; clear hb2 c0 c1 c2 c3 c4 k0 k1 k2 k3 k4))
  go_ret
  exact ⟨ret_bool (by simp), HB3.out⟩
end Go.Proofs.YtbbiapgkcekabaaGreat

/-
  THE WALK OF corolaw6.alive: true.
-/
namespace Go.Proofs.YtbbiapgkcekabaaGreat
open Go.RowKit

def a6Text : Str := ⟨([116, 40, 88, 44, 89, 41, 32, 58, 45, 32, 101, 40, 88, 44, 89, 41, 46, 32, 116, 40, 88, 44, 90, 41, 32, 58, 45, 32, 116, 40, 88, 44, 89].append [41, 44, 32, 101, 40, 89, 44, 90, 41, 46]).toArray⟩
def a6Prog : List PRule := [⟨⟨false, xt, [⟨true, xX⟩, ⟨true, xY⟩]⟩, [⟨false, xe, [⟨true, xX⟩, ⟨true, xY⟩]⟩]⟩,
  ⟨⟨false, xt, [⟨true, xX⟩, ⟨true, xZ⟩]⟩, [⟨false, xt, [⟨true, xX⟩, ⟨true, xY⟩]⟩, ⟨false, xe, [⟨true, xY⟩, ⟨true, xZ⟩]⟩]⟩]
def a6Facts : List PFact := [⟨xe, [xa, xb]⟩]
def a6All : List PFact := [⟨xe, [xa, xb]⟩, ⟨xt, [xa, xb]⟩]
theorem parse_a6 : parseF a6Text = (a6Prog, 0, 0) := by decide +kernel
theorem begin_a6 : beginP [0, 0] 0 a6Prog a6Facts = (⟨a6Facts, a6Facts, 0, 0, false⟩, 0) := by decide +kernel
theorem steps_a6 : stepsRun [0, 0] 0 a6Prog ⟨a6Facts, a6Facts, 0, 0, false⟩ 9 = (⟨a6All, a6All, 1, 2, true⟩, 0) := by decide +kernel
theorem all_a6 : allRun [0, 0] 0 a6Prog a6Facts = (a6All, 0) := by decide +kernel
theorem bad_a6 : runBad [0, 0] 0 a6Prog ⟨a6All, a6All, 1, 2, true⟩ = 0 := by decide +kernel
theorem wrong_a6 : wrongP a6Prog = (0, 0) := by decide +kernel
theorem small_a6 : ∀ r ∈ a6Prog, RuleSmall r := fun r hr => ruleSmall_of (List.all_eq_true.1 (show a6Prog.all ruleSmallB = true by decide +kernel) r hr)
theorem names_a6 : ∀ r ∈ a6Prog, NameSmall r := fun r hr => nameSmall_of (List.all_eq_true.1 (show a6Prog.all nameSmallB = true by decide +kernel) r hr)
theorem least_a6 : Least a6Prog (fun _ => 0) := least_plain fun r hr a ha => by
  have h := List.all_eq_true.1 (show a6Prog.all (fun r => r.body.all fun a => !a.neg) = true by decide +kernel) r hr
  simpa using List.all_eq_true.1 h a ha
theorem strata_a6 : StrataIs a6Prog [0, 0] (0, 0) := .inr ⟨by rw [wrong_a6], .inl ⟨_, least_a6, by decide +kernel, rfl⟩⟩
theorem args_a6 : ∀ x ∈ a6All, x.args.length ≤ 1048576 := fun x hx => of_decide_eq_true (List.all_eq_true.1 (show a6All.all (fun a => decide (a.args.length ≤ 1048576)) = true by decide +kernel) x hx)
theorem args_f6 : ∀ x ∈ a6Facts, x.args.length ≤ 1048576 := fun x hx => of_decide_eq_true (List.all_eq_true.1 (show a6Facts.all (fun a => decide (a.args.length ≤ 1048576)) = true by decide +kernel) x hx)
/-- One fact, laid as the text lays it. -/
theorem a6_lit (W : World) {n : Nat} (h : W.heap.size = n) : RdFacts (fun _ => True) ((W.alloc (.cells #[.string xa, .string xb] 9)).alloc (.cells #[.string xe, .slice (some ⟨n, 0, none⟩) 2 2] 61)) (.slice (some ⟨n + 1, 0, none⟩) 1 1) a6Facts :=
  RdFacts.lit [.slice (some ⟨n, 0, none⟩) 2 2] rfl (by simp [maxLen]) rfl (Blk.at_ (by simp; omega)) fun i f v hf hv => by
    rcases i with _ | i
    · obtain rfl := Option.some.inj hf
      obtain rfl := Option.some.inj hv
      exact RdStrs.lit rfl (by simp [maxLen]) ((Blk.at_ (t := 9) h).alloc _)
    · simp [a6Facts] at hf
theorem below3 (w : World) (o1 o2 o3 : Obj) : Below w.heap.size w (((w.alloc o1).alloc o2).alloc o3) := (((Below.refl _ _).alloc (Nat.le_refl _) _).alloc (by simp) _).alloc (by simp; omega) _
theorem small_r6 : RunSmall ⟨a6Facts, a6Facts, 0, 0, false⟩ := ⟨by decide, args_f6, by decide, args_f6⟩
theorem small_s6 : RunSmall ⟨a6All, a6All, 1, 2, true⟩ := ⟨by decide, args_a6, by decide, args_a6⟩

set_option maxRecDepth 100000 in
set_option maxHeartbeats 4000000 in
theorem alive6Calls (w : World) : Calls Tryz.prog 46 #[] w fun e w' => e = .returned (.bool true) ∧ Below w.heap.size w w' := by
  have T1 := Lib.hid True.intro
  go_enter Tryz.func46, Tryz.ntmps46
  go_wp2_with (first
    | (go_at_call 30; have hh := HI4.out; clear hh; refine (runWrongCalls a6Prog _ [0, 0] (0, 0) ⟨a6All, a6All, 1, 2, true⟩ _ _ _ strata_a6 (HR1.out.up HI4.out.below) HI4.out.rd (by decide) small_a6 names_a6 small_s6).mono ?_; rw [bad_a6]; rintro e w5 ⟨rfl, hb5⟩; have HI5 := Lib.hid (HI4.out.next hb5); clear hb5)
    | (go_at_call 47; have hh := HI3.out; clear hh; refine (allRunCalls a6Prog _ _ [0, 0] (0, 0) a6Facts _ strata_a6 (HR1.out.up ((HI3.out.alloc _).alloc _).below) (a6_lit _ (by simp)) (by decide) small_a6 names_a6 (by decide) args_f6).mono ?_; rintro e w4 hp4; obtain ⟨hb4, a4, c4, rfl, hr4⟩ := factsE_known all_a6 rfl hp4; have HI4 := Lib.hid (((HI3.out.alloc _).alloc _).next hb4); have m0 := HI4.out.blk.cell 0; have m1 := HI4.out.blk.cell 1; have m2 := HI4.out.blk.cell 2; have m3 := HI4.out.blk.cell 3; have m4 := HI4.out.blk.cell 4; simp only [List.getElem?_toArray, List.getElem?_cons_zero, List.getElem?_cons_succ] at m0 m1 m2 m3 m4; clear hb4 hr4 hp4)
    | (go_at_call 34; have hh := HI2.out; clear hh; refine (stepsRunCalls a6Prog _ [0, 0] (0, 0) ⟨a6Facts, a6Facts, 0, 0, false⟩ _ _ 9 _ strata_a6 (HR1.out.up HI2.out.below) HI2.out.rd (by decide) small_a6 names_a6 small_r6).mono ?_; rintro e w3 hp3; obtain ⟨hb3, a3, c3, b3, d3, rfl, hk3, hn3⟩ := run_known steps_a6 rfl rfl hp3; have HI3 := Lib.hid ((HI2.out.next hb3).store (x := ⟨a6All, a6All, 1, 2, true⟩) HI2.out.blk.lt hk3 hn3); have HX3 := Lib.hid (HI2.out.next hb3); have j0 := HX3.out.blk.cell 0; have j1 := HX3.out.blk.cell 1; have j2 := HX3.out.blk.cell 2; have j3 := HX3.out.blk.cell 3; have j4 := HX3.out.blk.cell 4; have y0 := HX3.out.blk.frozen 0; have y1 := HX3.out.blk.frozen 1; have y2 := HX3.out.blk.frozen 2; have y3 := HX3.out.blk.frozen 3; have y4 := HX3.out.blk.frozen 4; simp only [List.getElem?_toArray, List.getElem?_cons_zero, List.getElem?_cons_succ] at j0 j1 j2 j3 j4; clear hb3 hk3 hn3 hp3)
    | (go_at_call 27; have hh := HR1.out; clear hh; refine (beginCalls a6Prog _ _ [0, 0] (0, 0) a6Facts _ strata_a6 (HR1.out.up (below3 _ _ _ _)) (a6_lit _ (by simp)) (by decide) small_a6 names_a6 (by decide) args_f6).mono ?_; rintro e w2 hp2; obtain ⟨hb2, a2, c2, b2, d2, rfl, hk2, hn2⟩ := run_known begin_a6 rfl rfl hp2; have HI2 := Lib.hid (RunIn.mk_ (w := w1) (r := ⟨a6Facts, a6Facts, 0, 0, false⟩) (below3 _ _ _ _) hb2 hk2 hn2); have k0 := HI2.out.blk.cell 0; have k1 := HI2.out.blk.cell 1; have k2 := HI2.out.blk.cell 2; have k3 := HI2.out.blk.cell 3; have k4 := HI2.out.blk.cell 4; simp only [List.getElem?_toArray, List.getElem?_cons_zero, List.getElem?_cons_succ] at k0 k1 k2 k3 k4; clear hb2 hk2 hn2 hp2)
    | (go_at_call 65; clear T1; refine (parseKnown (s := a6Text) (n := 2) (by rfl) (by decide) parse_a6 _).mono ?_; rintro e w1 ⟨⟨a1, c1, rfl, hr1⟩, hb1⟩; have HR1 := Lib.hid hr1; have HB1 := Lib.hid hb1; clear hr1 hb1))
  go_ret
  exact ⟨ret_bool (by simp), HB1.out.trans (HI5.out.below.mono (Below.size HB1.out))⟩
end Go.Proofs.YtbbiapgkcekabaaGreat

/-
  PLAIN: what a round makes; a right run stays right; rounds end; in two parts or at once (chapter 6).
-/
namespace Go.Proofs.YtbbiapgkcekabaaGreat

/-- What a rule makes, something in its body being new, or nothing in it can be. -/
def Makes (r : PRule) (known new : List PFact) (x : PFact) : Prop :=
  (∃ (i : Nat) (a : PAtom) (m : Binds), r.body[i]? = some a ∧ a.neg = false ∧ Told (pickP known new (i : Int)) r.body m ∧ fillP r.head m = some x) ∨ ((∀ a ∈ r.body, a.neg = true) ∧ Derives r known x)
theorem with_much {b : List PAtom} {known new : List PFact} {i : Int} (hb : bodyBad b = 0) (hk : (setF known).1 = 0) (hn : (setF new).1 = 0) (h : (withP b known i new).2 ≠ 0) : (withP b known i new).2 = 4 := by
  unfold withP at *
  rw [if_neg (by simpa using hb), if_neg (by simpa using hk), if_neg (by simpa using hn)] at *
  cases hg : goP (pickP known new i) 0 [[]] b with
  | none => rfl
  | some ls => rw [hg] at h; exact absurd rfl h
theorem newP_cases {x : PRule} {known new : List PFact} (hb : bodyBad x.body = 0) (hk : (setF known).1 = 0) (hn : (setF new).1 = 0) : ∀ (b : List PAtom) (i : Nat) (out : List PFact) (sm : Bool), x.body.drop i = b →
    (newP x known new i b out sm).2 = 4 ∨
    (newP x known new i b out sm).2 = 0 ∧ (sm = true ∨ ∃ a ∈ b, a.neg = false) ∧ (∀ f, f ∈ (newP x known new i b out sm).1 ↔ f ∈ out ∨ ∃ (j : Nat) (a : PAtom) (m : Binds), i ≤ j ∧ x.body[j]? = some a ∧ a.neg = false ∧ Told (pickP known new (j : Int)) x.body m ∧ fillP x.head m = some f) ∨
    sm = false ∧ (∀ a ∈ b, a.neg = true) ∧ newP x known new i b out sm = headsP x known
  | [], i, out, sm, hd => by
    rw [newP]
    cases sm
    · exact .inr (.inr ⟨rfl, fun a ha => by simp at ha, rfl⟩)
    · refine .inr (.inl ⟨rfl, .inl rfl, fun f => ?_⟩)
      refine ⟨fun h => .inl h, fun h => ?_⟩
      rcases h with h | ⟨j, a, m, hj, ha, -⟩
      · exact h
      · have hlen : x.body.length ≤ i := List.drop_eq_nil_iff.1 hd
        have := (List.getElem?_eq_some_iff.1 ha).1
        omega
  | a :: b, i, out, sm, hd => by
    have hai : x.body[i]? = some a := by
      have := congrArg (fun l => l[0]?) hd
      simpa using this
    have hd' : x.body.drop (i + 1) = b := by
      have := congrArg (fun l => l.drop 1) hd
      simpa [List.drop_drop] using this
    rw [newP]
    cases hneg : a.neg
    case true =>
      rw [if_pos rfl]
      rcases newP_cases hb hk hn b (i + 1) out sm hd' with h | ⟨h0, h1, h2⟩ | ⟨h1, h2, h3⟩
      · exact .inl h
      · refine .inr (.inl ⟨h0, ?_, fun f => ?_⟩)
        · rcases h1 with h1 | ⟨c, hc, hc'⟩
          · exact .inl h1
          · exact .inr ⟨c, List.mem_cons_of_mem _ hc, hc'⟩
        · rw [h2]
          refine or_congr_right ⟨fun ⟨j, c, m, hj, hr⟩ => ⟨j, c, m, by omega, hr⟩, fun ⟨j, c, m, hj, hc, hcn, hr⟩ => ⟨j, c, m, ?_, hc, hcn, hr⟩⟩
          by_cases e : j = i
          · subst e; rw [hai] at hc; injection hc with hc; subst hc; rw [hneg] at hcn; cases hcn
          · omega
      · exact .inr (.inr ⟨h1, fun c hc => by
          rcases List.mem_cons.1 hc with rfl | hc
          · exact hneg
          · exact h2 c hc, h3⟩)
    case false =>
      rw [if_neg (by simp)]
      by_cases he : (withP x.body known (i : Int) new).2 = 0
      case neg => rw [if_pos he]; exact .inl (with_much hb hk hn he)
      rw [if_neg (by simpa using he)]
      have hT : ∀ m, m ∈ (withP x.body known (i : Int) new).1 ↔ Told (pickP known new (i : Int)) x.body m := by
        rcases withP_cases x.body known (i : Int) new with ⟨h, -⟩ | ⟨-, -, -, -, -, h⟩
        · exact absurd he h
        · exact h
      rcases newP_cases hb hk hn b (i + 1) (out ++ fillAll x.head (withP x.body known (i : Int) new).1) true hd' with h | ⟨h0, h1, h2⟩ | ⟨h1, -⟩
      · exact .inl h
      · refine .inr (.inl ⟨h0, .inr ⟨a, by simp, hneg⟩, fun f => ?_⟩)
        rw [h2, List.mem_append]
        constructor
        · rintro ((h | h) | ⟨j, c, m, hj, hr⟩)
          · exact .inl h
          · obtain ⟨m, hm, hf⟩ := List.mem_filterMap.1 h
            exact .inr ⟨i, a, m, Nat.le_refl _, hai, hneg, (hT m).1 hm, hf⟩
          · exact .inr ⟨j, c, m, by omega, hr⟩
        · rintro (h | ⟨j, c, m, hj, hc, hcn, ht, hf⟩)
          · exact .inl (.inl h)
          · by_cases e : j = i
            · subst e
              exact .inl (.inr (List.mem_filterMap.2 ⟨m, (hT m).2 ht, hf⟩))
            · exact .inr ⟨j, c, m, by omega, hc, hcn, ht, hf⟩
      · cases h1
theorem newHeads_cases {x : PRule} {known new : List PFact} (hb : bodyBad x.body = 0) (hk : (setF known).1 = 0) (hn : (setF new).1 = 0) :
    (newHeads x known new).2 = 4 ∨ (newHeads x known new).2 = 0 ∧ ∀ f, f ∈ (newHeads x known new).1 ↔ Makes x known new f := by
  unfold newHeads
  rcases newP_cases hb hk hn x.body 0 [] false (by simp) with h | ⟨h0, h1, h2⟩ | ⟨-, h2, h3⟩
  · exact .inl h
  · refine .inr ⟨h0, fun f => ?_⟩
    rw [h2]
    constructor
    · rintro (h | ⟨j, c, m, -, hr⟩)
      · simp at h
      · exact .inl ⟨j, c, m, hr⟩
    · rintro (⟨j, c, m, hr⟩ | ⟨h, -⟩)
      · exact .inr ⟨j, c, m, Nat.zero_le _, hr⟩
      · rcases h1 with h1 | ⟨a, ha, han⟩
        · cases h1
        · rw [h a ha] at han; cases han
  · rw [h3]
    by_cases he : (headsP x known).2 = 0
    · refine .inr ⟨he, fun f => ?_⟩
      rw [mem_heads he]
      constructor
      · exact fun h => .inr ⟨h2, h⟩
      · rintro (⟨j, c, m, hc, hcn, -⟩ | ⟨-, h⟩)
        · rw [h2 c (List.mem_of_getElem? hc)] at hcn; cases hcn
        · exact h
    · exact .inl (heads_much hb hk he)
def MakesS (ps : List (PRule × Int)) (s : Int) (known new : List PFact) (x : PFact) : Prop := ∃ r t, (r, t) ∈ ps ∧ t = s ∧ Makes r known new x
theorem makeP_cases {s : Int} {known new : List PFact} (hk : (setF known).1 = 0) (hn : (setF new).1 = 0) : ∀ {ps : List (PRule × Int)} {made : List PFact}, (∀ r t, (r, t) ∈ ps → bodyBad r.body = 0) →
    (makeP s known new ps made).2 = 4 ∨ (makeP s known new ps made).2 = 0 ∧ ∀ f, f ∈ (makeP s known new ps made).1 ↔ f ∈ made ∨ MakesS ps s known new f
  | [], made, _ => .inr ⟨rfl, fun f => ⟨.inl, fun h => by
      rcases h with h | ⟨r, t, h, -⟩
      · exact h
      · simp at h⟩⟩
  | (r, t) :: ps, made, hb => by
    have hb' : ∀ r t, (r, t) ∈ ps → bodyBad r.body = 0 := fun r t h => hb r t (List.mem_cons_of_mem _ h)
    rw [makeP]
    by_cases ht : t = s
    case neg =>
      rw [if_pos ht]
      rcases makeP_cases (made := made) hk hn hb' with h | ⟨h0, h1⟩
      · exact .inl h
      · refine .inr ⟨h0, fun f => ?_⟩
        rw [h1]
        refine or_congr_right ⟨fun ⟨r', t', hm, hr⟩ => ⟨r', t', List.mem_cons_of_mem _ hm, hr⟩, fun ⟨r', t', hm, e, hr⟩ => ?_⟩
        rcases List.mem_cons.1 hm with hm | hm
        · injection hm with _ h2; subst h2; exact absurd e ht
        · exact ⟨r', t', hm, e, hr⟩
    rw [if_neg (by simpa using ht)]
    rcases newHeads_cases (hb r t (by simp)) hk hn with h | ⟨h0, h1⟩
    · rw [if_pos (by rw [h]; decide)]; exact .inl h
    rw [if_neg (by simpa using h0)]
    rcases makeP_cases (made := made ++ (newHeads r known new).1) hk hn hb' with h | ⟨g0, g1⟩
    · exact .inl h
    · refine .inr ⟨g0, fun f => ?_⟩
      rw [g1, List.mem_append, h1]
      constructor
      · rintro ((h | h) | ⟨r', t', hm, hr⟩)
        · exact .inl h
        · exact .inr ⟨r, t, by simp, ht, h⟩
        · exact .inr ⟨r', t', List.mem_cons_of_mem _ hm, hr⟩
      · rintro (h | ⟨r', t', hm, e, hr⟩)
        · exact .inl (.inl h)
        · rcases List.mem_cons.1 hm with hm | hm
          · injection hm with h2 _; subst h2; exact .inl (.inr hr)
          · exact .inr ⟨r', t', hm, e, hr⟩
/-- What is made of what is new is made of what is known. -/
theorem Makes.derives {r : PRule} {known new : List PFact} {x : PFact} (hs : ∀ y ∈ new, y ∈ known) (h : Makes r known new x) : Derives r known x := by
  rcases h with ⟨i, a, m, ha, hneg, ⟨h1, h2, h3, h4⟩, hf⟩ | ⟨-, h⟩
  · refine ⟨m, ⟨h1, h2, h3, fun j c hc => ?_⟩, hf⟩
    obtain ⟨f, k1, k2⟩ := h4 j c hc
    refine ⟨f, k1, ?_⟩
    unfold pickP at k2
    by_cases e : (j : Int) = (i : Int)
    · rw [if_pos e] at k2
      have e' : j = i := by omega
      subst e'
      rw [ha] at hc; injection hc with hc; subst hc
      rw [hneg] at k2 ⊢
      exact (memF_iff f known).2 (hs f ((memF_iff f new).1 k2))
    · rw [if_neg e] at k2; exact k2
  · exact h

theorem in_lessF (l m : List PFact) (x : PFact) : x ∈ lessF l m ↔ x ∈ l ∧ x ∉ m := by
  unfold lessF
  rw [List.mem_filter]
  refine and_congr_right fun _ => ?_
  rw [← memF_iff x m]
  cases memF x m <;> simp
theorem lessF_up {l m : List PFact} (h : Rising l) : Rising (lessF l m) := List.Pairwise.filter _ h
theorem joinF_nil {l : List PFact} (h : Rising l) : joinF l [] = l := rising_ext (ofF_rising _) h fun x => by rw [mem_joinF]; simp
/-- What a step comes to, with which nothing is wrong. -/
structure Stepped (ps : List (PRule × Int)) (n : Int) (r r' : PRun) : Prop where
  mem : ∀ x, x ∈ r'.known ↔ x ∈ r.known ∨ MakesS ps r.stratum r.known r.new x
  rise : Rising r'.known
  len : r'.known.length ≤ 200
  rnew : Rising r'.new
  rounds : r'.rounds = r.rounds + 1
  how : (r'.known = r.known ∧ r'.new = r.known ∧ r'.stratum = r.stratum + 1 ∧ r'.done = (r.stratum + 1 == n)) ∨
    (r'.stratum = r.stratum ∧ r'.done = false ∧ (∃ x, x ∈ r'.new) ∧ ∀ x, x ∈ r'.new ↔ x ∈ r'.known ∧ x ∉ r.known)
/-- The rules, and what is said of them. -/
structure Ruled (st : List Int) (p : List PRule) : Prop where
  rules : ∀ r ∈ p, ruleBad r = 0
  arity : Arity p
theorem Ruled.body {st : List Int} {p : List PRule} (h : Ruled st p) {r : PRule} {t : Int} (hm : (r, t) ∈ p.zip st) : bodyBad r.body = 0 := (ruleBad_zero (h.rules r (List.of_mem_zip hm).1)).2.2.1
theorem step_cases {st : List Int} {p : List PRule} (hR : Ruled st p) {r : PRun} (h : RunOk st p r) (hd : r.done = false) :
    goodStep st p r = (zeroRun, 4) ∨ (goodStep st p r = (zeroRun, 5) ∧ (r.rounds = 1000 ∨ ∃ l, Rising l ∧ 200 < l.length ∧ ∀ x, x ∈ l ↔ x ∈ r.known ∨ MakesS (p.zip st) r.stratum r.known r.new x)) ∨
    ((goodStep st p r).2 = 0 ∧ r.rounds ≠ 1000 ∧ Stepped (p.zip st) (countP st) r (goodStep st p r).1) := by
  have hk : (setF r.known).1 = 0 := by rw [h.known.set]
  have hn : (setF r.new).1 = 0 := by rw [h.new.set]
  unfold goodStep
  rw [hd, if_neg (by decide)]
  by_cases h1 : r.rounds = 1000
  · rw [if_pos h1]; exact .inr (.inl ⟨rfl, .inl h1⟩)
  rw [if_neg h1]
  rcases makeP_cases (s := r.stratum) (made := []) (ps := p.zip st) hk hn (fun r t hm => hR.body hm) with h2 | ⟨h2, h3⟩
  · rw [if_pos (by rw [h2]; decide), h2]; exact .inl rfl
  rw [if_neg (by simpa using h2)]
  generalize (makeP r.stratum r.known r.new (p.zip st) []).1 = made at h3
  have hM : ∀ x, x ∈ joinF r.known (lessF (ofF made) r.known) ↔ x ∈ r.known ∨ MakesS (p.zip st) r.stratum r.known r.new x := fun x => by
    rw [mem_joinF, in_lessF, mem_ofF, h3]
    constructor
    · rintro (h | ⟨h | h, -⟩)
      · exact .inl h
      · simp at h
      · exact .inr h
    · rintro (h | h)
      · exact .inl h
      · by_cases hx : x ∈ r.known
        · exact .inl hx
        · exact .inr ⟨.inr h, hx⟩
  by_cases h4 : 200 < (joinF r.known (lessF (ofF made) r.known)).length
  · rw [if_pos h4]; exact .inr (.inl ⟨rfl, .inr ⟨_, ofF_rising _, h4, hM⟩⟩)
  rw [if_neg h4]
  refine .inr (.inr ⟨rfl, h1, ?_⟩)
  show Stepped _ _ _ (nextRun (countP st) r made)
  unfold nextRun
  by_cases h5 : lessF (ofF made) r.known = []
  · rw [if_pos h5]
    have e : joinF r.known (lessF (ofF made) r.known) = r.known := by rw [h5, joinF_nil h.known.rise]
    rw [e] at hM h4 ⊢
    exact ⟨hM, h.known.rise, by show r.known.length ≤ 200; omega, h.known.rise, rfl, .inl ⟨rfl, rfl, rfl, rfl⟩⟩
  · rw [if_neg h5]
    refine ⟨hM, ofF_rising _, by show (joinF r.known (lessF (ofF made) r.known)).length ≤ 200; omega, lessF_up (ofF_rising _), rfl, .inr ⟨rfl, rfl, List.exists_mem_of_ne_nil _ h5, fun x => ?_⟩⟩
    show x ∈ lessF (ofF made) r.known ↔ x ∈ joinF r.known (lessF (ofF made) r.known) ∧ x ∉ r.known
    rw [mem_joinF, in_lessF]
    constructor
    · rintro ⟨a, b⟩; exact ⟨.inr ⟨a, b⟩, b⟩
    · rintro ⟨a | a, b⟩
      · exact absurd a b
      · exact a
theorem MakesS.derives {ps : List (PRule × Int)} {s : Int} {known new : List PFact} {x : PFact} (hs : ∀ y ∈ new, y ∈ known) (h : MakesS ps s known new x) : ∃ r t, (r, t) ∈ ps ∧ t = s ∧ Derives r known x := by
  obtain ⟨r, t, hm, e, h⟩ := h
  exact ⟨r, t, hm, e, h.derives hs⟩
theorem Stepped.sub {ps : List (PRule × Int)} {n : Int} {r r' : PRun} (h : Stepped ps n r r') : ∀ x ∈ r.known, x ∈ r'.known := fun x hx => (h.mem x).2 (.inl hx)
theorem Stepped.newsub {ps : List (PRule × Int)} {n : Int} {r r' : PRun} (h : Stepped ps n r r') : ∀ x ∈ r'.new, x ∈ r'.known := fun x hx => by
  rcases h.how with ⟨e1, e2, -⟩ | ⟨-, -, -, e⟩
  · rw [e2] at hx; rw [e1]; exact hx
  · exact ((e x).1 hx).1
/-- A right run stays right. -/
theorem Stepped.ok {st : List Int} {p : List PRule} (hR : Ruled st p) {r r' : PRun} (h : RunOk st p r) (hd : r.done = false) (h1 : r.rounds ≠ 1000) (hs : Stepped (p.zip st) (countP st) r r') : RunOk st p r' := by
  have hfine : ∀ x ∈ r'.known, wrongF x = 0 ∧ misfit p x = false := fun x hx => by
    rcases (hs.mem x).1 hx with hx | hx
    · exact ⟨h.known.fine x hx, (factsBad_iff.1 h.fit).2 x hx⟩
    · obtain ⟨r0, t, hm, -, hdv⟩ := hx.derives h.sub
      have hr0 := (List.of_mem_zip hm).1
      exact ⟨derives_good (hR.rules r0 hr0) (fun f hf => h.known.fine f hf) hdv, derives_fit hR.arity hr0 hdv⟩
  have hk : Good r'.known := ⟨hs.rise, hs.len, fun x hx => (hfine x hx).1⟩
  have hdn : (r.stratum == countP st) = false := by rw [← h.done]; exact hd
  have hne : r.stratum ≠ countP st := by simpa using hdn
  have h0 := h.s0
  have hs1 := h.s1
  have hr0 := h.r0
  have hr1 := h.r1
  have e := hs.rounds
  refine ⟨hk, factsBad_iff.2 ⟨by rw [hk.set], fun x hx => (hfine x hx).2⟩, ⟨hs.rnew, Nat.le_trans (rising_sub_le hs.rnew hs.newsub) hs.len, fun x hx => (hfine x (hs.newsub x hx)).1⟩, by omega, by omega, ?_, ?_, ?_, hs.newsub⟩
  · rcases hs.how with ⟨-, -, e, -⟩ | ⟨e, -⟩ <;> omega
  · rcases hs.how with ⟨-, -, e, -⟩ | ⟨e, -⟩ <;> omega
  · rcases hs.how with ⟨-, -, e, e2⟩ | ⟨e, e2, -⟩
    · rw [e2, e]
    · rw [e2, e, hdn]
theorem step_done {st : List Int} {p : List PRule} {r : PRun} (h : r.done = true) : goodStep st p r = (r, 0) := by unfold goodStep; rw [if_pos h]
theorem step_good_eq {st : List Int} {p : List PRule} {r : PRun} (h : RunOk st p r) : stepRun st 0 p r = goodStep st p r := by
  unfold stepRun
  rw [if_neg (by rw [runBad_zero.2 ⟨rfl, h⟩]; simp)]
/-- EACH ROUND IS RIGHT. -/
structure Rightly (st : List Int) (p : List PRule) (r r' : PRun) : Prop where
  ok : RunOk st p r'
  grows : ∀ x ∈ r.known, x ∈ r'.known
  done : r.done = true → r' = r
  rounds : r.rounds ≤ r'.rounds
  stratum : r.stratum ≤ r'.stratum
theorem step_right {st : List Int} {p : List PRule} (hR : Ruled st p) {r : PRun} (h : RunOk st p r) :
    (stepRun st 0 p r).2 = 4 ∨ (stepRun st 0 p r).2 = 5 ∨ (stepRun st 0 p r).2 = 0 ∧ Rightly st p r (stepRun st 0 p r).1 := by
  rw [step_good_eq h]
  cases hd : r.done
  · rcases step_cases hR h hd with h1 | ⟨h1, -⟩ | ⟨h1, h2, h3⟩
    · rw [h1]; exact .inl rfl
    · rw [h1]; exact .inr (.inl rfl)
    · refine .inr (.inr ⟨h1, h3.ok hR h hd h2, h3.sub, fun h => (by rw [hd] at h; cases h), ?_, ?_⟩)
      · have := h3.rounds; omega
      · rcases h3.how with ⟨-, -, e, -⟩ | ⟨e, -⟩ <;> omega
  · rw [step_done hd]
    exact .inr (.inr ⟨rfl, h, fun x hx => hx, fun _ => rfl, Int.le_refl _, Int.le_refl _⟩)
theorem iter_still {st : List Int} {q : Int} {p : List PRule} {r : PRun} (h : r.done = true) : ∀ k, iterP st q p k r = (r, 0)
  | 0 => rfl
  | k + 1 => by rw [iterP, if_pos h]
theorem iter_on {st : List Int} {q : Int} {p : List PRule} {r : PRun} (h : r.done = false) (k : Nat) : iterP st q p (k + 1) r = if (stepRun st q p r).2 ≠ 0 then (zeroRun, (stepRun st q p r).2) else iterP st q p k (stepRun st q p r).1 := by
  rw [iterP, if_neg (by rw [h]; simp)]
theorem iter_add {st : List Int} {q : Int} {p : List PRule} : ∀ {n m : Nat} {r : PRun}, (iterP st q p n r).2 = 0 → iterP st q p (n + m) r = iterP st q p m (iterP st q p n r).1
  | 0, m, r, _ => by rw [Nat.zero_add]; rfl
  | n + 1, m, r, h => by
    cases hd : r.done
    · rw [show n + 1 + m = (n + m) + 1 by omega, iter_on hd (n + m)]
      rw [iter_on hd n] at h ⊢
      by_cases he : (stepRun st q p r).2 = 0
      · rw [if_neg (by simpa using he)] at h ⊢
        rw [if_neg (by simpa using he)]
        exact iter_add h
      · rw [if_pos he] at h; exact absurd h he
    · rw [iter_still hd, iter_still hd]
      exact (iter_still hd m).symm
theorem iter_right {st : List Int} {p : List PRule} (hR : Ruled st p) : ∀ {n : Nat} {r : PRun}, RunOk st p r →
    (iterP st 0 p n r).2 = 4 ∨ (iterP st 0 p n r).2 = 5 ∨ (iterP st 0 p n r).2 = 0 ∧ RunOk st p (iterP st 0 p n r).1 ∧ ((iterP st 0 p n r).1.done = true ∨ n + r.known.length + r.stratum ≤ (iterP st 0 p n r).1.known.length + (iterP st 0 p n r).1.stratum)
  | 0, r, h => .inr (.inr ⟨rfl, h, .inr (by show ((0 : Nat) : Int) + _ + _ ≤ (r.known.length : Int) + r.stratum; omega)⟩)
  | n + 1, r, h => by
    cases hd : r.done
    case true => rw [iter_still hd]; exact .inr (.inr ⟨rfl, h, .inl hd⟩)
    rw [iterP, if_neg (by rw [hd]; simp), step_good_eq h]
    rcases step_cases hR h hd with h1 | ⟨h1, -⟩ | ⟨h1, h2, h3⟩
    · rw [h1]; exact .inl rfl
    · rw [h1]; exact .inr (.inl rfl)
    · rw [if_neg (by simpa using h1)]
      have hlen : (r.known.length : Int) + r.stratum + 1 ≤ (goodStep st p r).1.known.length + (goodStep st p r).1.stratum := by
        rcases h3.how with ⟨e, -, e2, -⟩ | ⟨e, -, ⟨x, hx⟩, e2⟩
        · rw [e, e2]; omega
        · rw [e]
          obtain ⟨a, b⟩ := (e2 x).1 hx
          have := nodup_le (l := x :: r.known) (m := (goodStep st p r).1.known) (List.nodup_cons.2 ⟨b, nodup_rising h.known.rise⟩) fun y hy => by
            rcases List.mem_cons.1 hy with rfl | hy
            · exact a
            · exact h3.sub y hy
          simp only [List.length_cons] at this
          omega
      rcases iter_right hR (n := n) (h3.ok hR h hd h2) with g | g | ⟨g1, g2, g3⟩
      · exact .inl g
      · exact .inr (.inl g)
      · refine .inr (.inr ⟨g1, g2, ?_⟩)
        rcases g3 with g3 | g3
        · exact .inl g3
        · refine .inr ?_
          omega
theorem steps_good {st : List Int} {p : List PRule} {r : PRun} (h : RunOk st p r) {n : Int} (h0 : 0 ≤ n) (h1 : n ≤ 1000) : stepsRun st 0 p r n = iterP st 0 p n.toNat r := by
  unfold stepsRun
  rw [if_neg (by rw [runBad_zero.2 ⟨rfl, h⟩]; simp), if_neg (by omega)]
/-- Each run ends. -/
theorem steps_end {st : List Int} {p : List PRule} (hR : Ruled st p) (hc : countP st ≤ 16) {r : PRun} (h : RunOk st p r) :
    (stepsRun st 0 p r 1000).2 = 4 ∨ (stepsRun st 0 p r 1000).2 = 5 ∨ (stepsRun st 0 p r 1000).2 = 0 ∧ RunOk st p (stepsRun st 0 p r 1000).1 ∧ (stepsRun st 0 p r 1000).1.done = true := by
  rw [steps_good h (by omega) (by omega)]
  rcases iter_right hR (n := (1000 : Int).toNat) h with g | g | ⟨g1, g2, g3⟩
  · exact .inl g
  · exact .inr (.inl g)
  · refine .inr (.inr ⟨g1, g2, ?_⟩)
    rcases g3 with g3 | g3
    · exact g3
    · have k1 := g2.known.len
      have k2 := g2.s1
      have k3 := h.s0
      have k4 : (((1000 : Int).toNat : Nat) : Int) = 1000 := rfl
      rw [k4] at g3
      omega
/-- STOPPED, AND GONE ON WITH. -/
theorem steps_parts {st : List Int} {p : List PRule} (hR : Ruled st p) {r : PRun} (h : RunOk st p r) {n m : Int} (n0 : 0 ≤ n) (n1 : n ≤ 100) (m0 : 0 ≤ m) (m1 : m ≤ 100) (he : (stepsRun st 0 p r n).2 = 0) :
    RunOk st p (stepsRun st 0 p r n).1 ∧ stepsRun st 0 p (stepsRun st 0 p r n).1 m = stepsRun st 0 p r (n + m) := by
  have e1 := steps_good h n0 (by omega)
  rw [e1] at he ⊢
  rcases iter_right hR (n := n.toNat) h with g | g | ⟨g1, g2, g3⟩
  · rw [he] at g; cases g
  · rw [he] at g; cases g
  · refine ⟨g2, ?_⟩
    rw [steps_good g2 m0 (by omega), steps_good h (by omega) (by omega), show (n + m).toNat = n.toNat + m.toNat by omega, iter_add g1]
theorem strata_count {p : List PRule} {st : List Int} {q : Int × Int} (hs : StrataIs p st q) (hq : q.1 = 0) : Ruled st p ∧ 0 ≤ countP st ∧ countP st ≤ 16 ∧ ∃ L, Least p L ∧ st = p.map (fun r => (L r.head.name : Int)) := by
  obtain ⟨h1, h2, L, hL, e⟩ := strata_zero hs hq
  obtain ⟨k1, -, k3⟩ := wrongP_iff.1 h2
  refine ⟨⟨h1, k3⟩, ?_, ?_, L, hL, e⟩
  · rcases count_is st with ⟨-, h⟩ | ⟨x, hx, h⟩
    · omega
    · rw [e] at hx
      obtain ⟨r, -, rfl⟩ := List.mem_map.1 hx
      omega
  · rcases count_is st with ⟨-, h⟩ | ⟨x, hx, h⟩
    · omega
    · rw [e] at hx
      obtain ⟨r, hr, rfl⟩ := List.mem_map.1 hx
      have := hL.bound (D := headsOf p) (fun x hx => hx) (s := r.head.name) (List.mem_map.2 ⟨r, hr, rfl⟩)
      rw [show (headsOf p).length = p.length from List.length_map ..] at this
      omega
theorem begin_ok {p : List PRule} {st : List Int} {q : Int × Int} (hs : StrataIs p st q) {l : List PFact} (h : (beginP st q.1 p l).2 = 0) :
    q.1 = 0 ∧ (factsBad p l).1 = 0 ∧ beginP st q.1 p l = (⟨l, l, 0, 0, countP st == 0⟩, 0) ∧ RunOk st p (beginP st q.1 p l).1 := by
  by_cases h1 : q.1 = 0
  case neg => unfold beginP at h; rw [if_pos h1] at h; exact absurd h h1
  by_cases h2 : (factsBad p l).1 = 0
  case neg => unfold beginP at h; rw [if_neg (by simpa using h1), if_pos h2] at h; exact absurd h h2
  have e : beginP st q.1 p l = (⟨l, l, 0, 0, countP st == 0⟩, 0) := by unfold beginP; rw [if_neg (by simpa using h1), if_neg (by simpa using h2)]
  have hg := good_of (factsBad_set h2)
  obtain ⟨-, c0, -⟩ := strata_count hs h1
  refine ⟨h1, h2, e, ?_⟩
  rw [e]
  exact ⟨hg, h2, hg, by show (0 : Int) ≤ 0; omega, by show (0 : Int) ≤ 1000; omega, by show (0 : Int) ≤ 0; omega, c0, by show (countP st == 0) = ((0 : Int) == countP st); rw [Bool.beq_comm], fun x hx => hx⟩
end Go.Proofs.YtbbiapgkcekabaaGreat
