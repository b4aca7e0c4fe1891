/-
  THE WALKS OF round.Steps, All.
-/
import Derived.Test.YtiiicochdidolaaGreatTk28
import Derived.Test.YtiiicochdidolaaGreatTk30
namespace Go.Proofs.YtiiicochdidolaaGreat
open Go.RowKit
theorem steps_bad {st : List Int} {q : Int} {p : List PRule} {r : PRun} {n : Int} (h : runBad st q p r ≠ 0) : stepsRun st q p r n = (zeroRun,runBad st q p r) := by unfold stepsRun;rw [if_pos h]
theorem steps_range {st : List Int} {q : Int} {p : List PRule} {r : PRun} {n : Int} (h : runBad st q p r = 0) (hn : n < 0 ∨ 1000 < n) : stepsRun st q p r n = (zeroRun,3) := by unfold stepsRun;rw [if_neg (by simpa using h),if_pos hn]
theorem steps_iter {st : List Int} {q : Int} {p : List PRule} {r : PRun} {n : Int} (h : runBad st q p r = 0) (h1 : ¬ n < 0) (h2 : ¬ 1000 < n) : stepsRun st q p r n = iterP st q p n.toNat r := by
  unfold stepsRun;rw [if_neg (by simpa using h),if_neg (fun e => e.elim h1 h2)]
theorem iter_done {st : List Int} {q : Int} {p : List PRule} {r : PRun} {k : Nat} (h : r.done = true) : iterP st q p (k + 1) r = (r,0) := by rw [iterP,if_pos h]
theorem iter_err {st : List Int} {q : Int} {p : List PRule} {r : PRun} {k : Nat} (h : r.done = false) (he : (stepRun st q p r).2 ≠ 0) : iterP st q p (k + 1) r = (zeroRun,(stepRun st q p r).2) := by rw [iterP,if_neg (by simp [h]),if_pos he]
theorem iter_next {st : List Int} {q : Int} {p : List PRule} {r : PRun} {k : Nat} (h : r.done = false) (he : (stepRun st q p r).2 = 0) : iterP st q p (k + 1) r = iterP st q p k (stepRun st q p r).1 := by rw [iterP,if_neg (by simp [h]),if_neg (by simpa using he)]
theorem make_args {s : Int} {K N : List PFact} {m : Nat} : ∀ {ps : List (PRule × Int)} {o : List PFact},(∀ r t,(r,t) ∈ ps → r.head.terms.length ≤ m) → (∀ z ∈ o,z.args.length ≤ m) → ∀ z ∈ (makeP s K N ps o).1,z.args.length ≤ m
  | [],o,_,ho,z,hz => ho z hz
  | (r,t) :: ps,o,hp,ho,z,hz => by
    have hp' : ∀ r t,(r,t) ∈ ps → r.head.terms.length ≤ m := fun r t h => hp r t (List.mem_cons_of_mem _ h)
    rw [makeP] at hz
    split at hz
    · exact make_args hp' ho z hz
    · split at hz
      · simp at hz
      · exact make_args hp' (fun y hy => (List.mem_append.1 hy).elim (ho y) fun h => by rw [newHeads_args y h];exact hp r t (by simp)) z hz
theorem step_small {st : List Int} {q : Int × Int} {p : List PRule} {r : PRun} (n2 : ∀ r ∈ p,RuleSmall r) (ns : RunSmall r) : RunSmall (stepRun st q.1 p r).1 := by
  have hz : RunSmall zeroRun := ⟨by simp [zeroRun],by simp [zeroRun],by simp [zeroRun],by simp [zeroRun]⟩
  unfold stepRun
  split
  · exact hz
  unfold goodStep
  split
  · exact ns
  split
  · exact hz
  split
  · exact hz
  split
  · exact hz
  rename_i hl
  have hm : ∀ z ∈ (makeP r.stratum r.known r.new (p.zip st) []).1,z.args.length ≤ 1048576 := make_args (fun r t h => (n2 r (List.of_mem_zip h).1).h1) (by simp)
  generalize (makeP r.stratum r.known r.new (p.zip st) []).1 = o at *
  have h1 : ∀ z ∈ lessF (ofF o) r.known,z.args.length ≤ 1048576 := fun z hz => hm z ((mem_ofF z o).1 (List.mem_filter.1 hz).1)
  have h2 : ∀ z ∈ joinF r.known (lessF (ofF o) r.known),z.args.length ≤ 1048576 := fun z hz => ((mem_joinF _ _ z).1 hz).elim (ns.k2 z) (h1 z)
  have h3 : (lessF (ofF o) r.known).length ≤ (joinF r.known (lessF (ofF o) r.known)).length := rising_sub_le (List.Pairwise.sublist List.filter_sublist (ofF_rising o)) fun z hz => (mem_joinF _ _ z).2 (.inr hz)
  have hl' : (joinF r.known (lessF (ofF o) r.known)).length ≤ 200 := by
    have := hl
    omega
  unfold nextRun
  split
  · exact ⟨by show (joinF r.known (lessF (ofF o) r.known)).length ≤ _;omega,h2,by show (joinF r.known (lessF (ofF o) r.known)).length ≤ _;omega,h2⟩
  · exact ⟨by show (joinF r.known (lessF (ofF o) r.known)).length ≤ _;omega,h2,by show (lessF (ofF o) r.known).length ≤ _;omega,h1⟩
def OnRun (w W : World) (r : PRun) : Prop := ∃ a c b d,SpW w W (.slice a r.known.length c) (.slice b r.new.length d) r.stratum r.rounds r.done ∧
  RdFacts (fun q => w.heap.size + 2 ≤ q) W (.slice a r.known.length c) r.known ∧ RdFacts (fun q => w.heap.size + 2 ≤ q) W (.slice b r.new.length d) r.new
theorem onRun_own {w W : World} {r : PRun} {kv nv : Value} {a b : Option Addr} {c d : Nat} (h : SpW w W kv nv r.stratum r.rounds r.done) (h1 : RdFacts (fun q => w.heap.size + 2 ≤ q) W (.slice a r.known.length c) r.known) (h2 : RdFacts (fun q => w.heap.size + 2 ≤ q) W (.slice b r.new.length d) r.new) :
    OnRun w ((W.setCell ⟨w.heap.size,0,none⟩ (.slice a r.known.length c)).setCell ⟨w.heap.size,1,none⟩ (.slice b r.new.length d)) r := by
  have hx : ¬ (fun q => w.heap.size + 2 ≤ q) w.heap.size := fun h => by have h' : w.heap.size + 2 ≤ w.heap.size := h;omega
  have hn : w.heap.size + 1 ≠ w.heap.size := by omega
  exact ⟨a,c,b,d,⟨(h.below.setCell (Nat.le_refl _) _).setCell (Nat.le_refl _) _,(h.rb.set_ 0 (.slice a r.known.length c)).set_ 1 (.slice b r.new.length d),(h.q.far (p := ⟨w.heap.size,0,none⟩) hn _).far (p := ⟨w.heap.size,1,none⟩) hn _⟩,
    RdFacts.set_far (RdFacts.set_far h1 hx _) hx _,RdFacts.set_far (RdFacts.set_far h2 hx _) hx _⟩
theorem onRun_store {w W : World} {kv nv : Value} {s x : Int} {dn : Bool} {r : PRun} {a b : Option Addr} {c d : Nat} (h : SpW w W kv nv s x dn) (h1 : RdFacts (fun q => w.heap.size + 2 ≤ q) W (.slice a r.known.length c) r.known) (h2 : RdFacts (fun q => w.heap.size + 2 ≤ q) W (.slice b r.new.length d) r.new) :
    OnRun w (((((W.setCell ⟨w.heap.size,0,none⟩ (.slice a r.known.length c)).setCell ⟨w.heap.size,1,none⟩ (.slice b r.new.length d)).setCell ⟨w.heap.size,2,none⟩ (.int .i64 r.stratum)).setCell ⟨w.heap.size,3,none⟩ (.int .i64 r.rounds)).setCell ⟨w.heap.size,4,none⟩ (.bool r.done)) r := by
  have hx : ¬ (fun q => w.heap.size + 2 ≤ q) w.heap.size := fun h => by have h' : w.heap.size + 2 ≤ w.heap.size := h;omega
  have hn : w.heap.size + 1 ≠ w.heap.size := by omega
  refine ⟨a,c,b,d,⟨?_,?_,?_⟩,?_,?_⟩
  · exact ((((h.below.setCell (Nat.le_refl _) _).setCell (Nat.le_refl _) _).setCell (Nat.le_refl _) _).setCell (Nat.le_refl _) _).setCell (Nat.le_refl _) _
  · exact ((((h.rb.set_ 0 (.slice a r.known.length c)).set_ 1 (.slice b r.new.length d)).set_ 2 (.int .i64 r.stratum)).set_ 3 (.int .i64 r.rounds)).set_ 4 (.bool r.done)
  · exact ((((h.q.far (p := ⟨w.heap.size,0,none⟩) hn _).far (p := ⟨w.heap.size,1,none⟩) hn _).far (p := ⟨w.heap.size,2,none⟩) hn _).far (p := ⟨w.heap.size,3,none⟩) hn _).far (p := ⟨w.heap.size,4,none⟩) hn _
  · exact RdFacts.set_far (RdFacts.set_far (RdFacts.set_far (RdFacts.set_far (RdFacts.set_far h1 hx _) hx _) hx _) hx _) hx _
  · exact RdFacts.set_far (RdFacts.set_far (RdFacts.set_far (RdFacts.set_far (RdFacts.set_far h2 hx _) hx _) hx _) hx _) hx _
attribute [local go_sem ↓] Go.wp_at_zero Go.wp_at_succ
set_option maxRecDepth 100000 in
set_option maxHeartbeats 16000000 in
theorem stepsRunCalls {S : Nat → Prop} (p : List PRule) (v : Value) (st : List Int) (q : Int × Int) (r : PRun) (kv nv : Value) (n : Int) (w : World) (hS : StrataIs p st q) (h : RdRules S w v p) (hr : RunRd w r kv nv)
    (n1 : p.length ≤ 1048576) (n2 : ∀ r ∈ p,RuleSmall r) (n3 : ∀ r ∈ p,NameSmall r) (ns : RunSmall r) :
    Calls Tryz.prog 50 #[v,.agg #[kv,nv,.int .i64 r.stratum,.int .i64 r.rounds,.bool r.done],.int .i64 n] w (RunPost (stepsRun st q.1 p r n) w) := by
  obtain ⟨rk,rn,rs,rr,rd⟩ := r
  obtain ⟨a,c,rfl,-,-,-⟩ := id h.form
  obtain ⟨ka,kc,rfl,-,-,-⟩ := id hr.known.form
  obtain ⟨na,nc,rfl,-,-,-⟩ := id hr.new.form
  obtain ⟨W0,hW0⟩ : ∃ W0 : World,(w.alloc (.cells #[.slice ka rk.length kc,.slice na rn.length nc,.int .i64 rs,.int .i64 rr,.bool rd] 28)).alloc (.cells #[.slice none 0 0,.slice none 0 0,.int .i64 0,.int .i64 0,.bool false] 28) = W0 := ⟨_,rfl⟩
  have hw0 : SpW w W0 (.slice ka rk.length kc) (.slice na rn.length nc) rs rr rd := by
    subst hW0
    exact ⟨((Below.refl _ _).alloc (Nat.le_refl _) _).alloc (by simp) _,(Blk.new w _ _).alloc _,heap_new_at (by simp)⟩
  have HW0 := Lib.hid hw0
  have H := Lib.hid h
  have HR := Lib.hid hr
  have N2 := Lib.hid n2
  have N3 := Lib.hid n3
  have NS := Lib.hid ns
  have HS := Lib.hid hS
  have KB := Lib.hid (runWrongCalls p _ st q ⟨rk,rn,rs,rr,rd⟩ (.slice ka rk.length kc) (.slice na rn.length nc) W0 hS (h.up hw0.below) (hr.up hw0.below) n1 n2 n3 ns)
  clear h hr n2 n3 ns hw0 hS
  have r0 := HW0.out.rb.cell 0;have r1 := HW0.out.rb.cell 1;have r2 := HW0.out.rb.cell 2;have r3 := HW0.out.rb.cell 3;have r4 := HW0.out.rb.cell 4
  simp only [List.getElem?_toArray,List.getElem?_cons_zero,List.getElem?_cons_succ] at r0 r1 r2 r3 r4
  have hq1 : w.heap.size ≤ w.heap.size + 1 := Nat.le_succ _
  have E1 := Lib.hid (steps_bad (st := st) (q := q.1) (p := p) (r := ⟨rk,rn,rs,rr,rd⟩) (n := n))
  have E2 := Lib.hid (steps_range (st := st) (q := q.1) (p := p) (r := ⟨rk,rn,rs,rr,rd⟩) (n := n))
  have E3 := Lib.hid (steps_iter (st := st) (q := q.1) (p := p) (r := ⟨rk,rn,rs,rr,rd⟩) (n := n))
  generalize runBad st q.1 p ⟨rk,rn,rs,rr,rd⟩ = x at *
  dsimp only at *
  by_cases hx : x = 0
  case neg =>
    have g1 : (x != 0) = true := by simpa using hx
    have HE := Lib.hid (E1.out hx)
    clear hx E1 E2 E3
    go_enter Tryz.func50,Tryz.ntmps50
    go_wp2_with (go_at_call 43;refine (KB.out).mono ?_;rintro e w1 ⟨rfl,hb1⟩;have HW1 := Lib.hid (HW0.out.next hb1);have c0 := HW1.out.q.cell 0;have c1 := HW1.out.q.cell 1;have c2 := HW1.out.q.cell 2;have c3 := HW1.out.q.cell 3;have c4 := HW1.out.q.cell 4;have z0 := HW1.out.q.frozen 0;have z1 := HW1.out.q.frozen 1;have z2 := HW1.out.q.frozen 2;have z3 := HW1.out.q.frozen 3;have z4 := HW1.out.q.frozen 4;simp only [List.getElem?_toArray,List.getElem?_cons_zero,List.getElem?_cons_succ] at c0 c1 c2 c3 c4;clear hb1 r0 r1 r2 r3 r4)
    refine bodyPost_ret (v := .tuple #[.agg #[.slice none 0 0,.slice none 0 0,.int .i64 0,.int .i64 0,.bool false],.int .i64 x]) (by simp [results,Tryz.results50,go_sem,c0,c1,c2,c3,c4]) rfl (run_ret_err HE.out ?_)
    exact ((((HW1.out.below.setCell hq1 _).setCell hq1 _).setCell hq1 _).setCell hq1 _).setCell hq1 _
  subst hx
  by_cases hrg : n < 0 ∨ 1000 < n
  · have HE := Lib.hid (E2.out rfl hrg)
    clear E1 E2 E3
    have hcs : n < 0 ∨ ¬ n < 0 ∧ 1000 < n := by omega
    clear hrg
    rcases hcs with h1 | ⟨h1,h2⟩
    all_goals
      go_enter Tryz.func50,Tryz.ntmps50
      go_wp2_with (go_at_call 43;refine (KB.out).mono ?_;rintro e w1 ⟨rfl,hb1⟩;have HW1 := Lib.hid (HW0.out.next hb1);have c0 := HW1.out.q.cell 0;have c1 := HW1.out.q.cell 1;have c2 := HW1.out.q.cell 2;have c3 := HW1.out.q.cell 3;have c4 := HW1.out.q.cell 4;have z0 := HW1.out.q.frozen 0;have z1 := HW1.out.q.frozen 1;have z2 := HW1.out.q.frozen 2;have z3 := HW1.out.q.frozen 3;have z4 := HW1.out.q.frozen 4;simp only [List.getElem?_toArray,List.getElem?_cons_zero,List.getElem?_cons_succ] at c0 c1 c2 c3 c4;clear hb1 r0 r1 r2 r3 r4)
      refine bodyPost_ret (v := .tuple #[.agg #[.slice none 0 0,.slice none 0 0,.int .i64 0,.int .i64 0,.bool false],.int .i64 3]) (by simp [results,Tryz.results50,go_sem,c0,c1,c2,c3,c4]) rfl (run_ret_err HE.out ?_)
      exact ((((HW1.out.below.setCell hq1 _).setCell hq1 _).setCell hq1 _).setCell hq1 _).setCell hq1 _
  obtain ⟨h1,h2⟩ : ¬ n < 0 ∧ ¬ 1000 < n := ⟨fun h => hrg (.inl h),fun h => hrg (.inr h)⟩
  have HE := Lib.hid (E3.out rfl h1 h2)
  clear E1 E2 E3 hrg
  obtain ⟨m,rfl⟩ : ∃ m : Nat,n = m := ⟨n.toNat,by omega⟩
  have KO1 := Lib.hid (fun W (hW : Below w.heap.size w W) => ownReads (RdFacts.up HR.out.known hW) NS.out.k1 NS.out.k2)
  have KO2 := Lib.hid (fun W (hW : Below w.heap.size w W) => ownReads (RdFacts.up HR.out.new hW) NS.out.n1 NS.out.n2)
  go_enter Tryz.func50,Tryz.ntmps50
  go_wp2_with (go_at_call 43;refine (KB.out).mono ?_;rintro e w1 ⟨rfl,hb1⟩;have HW1 := Lib.hid (HW0.out.next hb1);have k0 := HW1.out.rb.cell 0;have k1 := HW1.out.rb.cell 1;have z0 := HW1.out.rb.frozen 0;have z1 := HW1.out.rb.frozen 1;simp only [List.getElem?_toArray,List.getElem?_cons_zero,List.getElem?_cons_succ] at k0 k1;clear hb1 r0 r1 r2 r3 r4)
  clear hW0 KB HW0
  go_cut [] (fun wx => OnRun w wx ⟨rk,rn,rs,rr,rd⟩)
  case first =>
    go_region_law (first
      | (go_simp;go_at_call 65;have hh := HW3.out;clear hh;(with_reducible refine (KO2.out _ HW3.out.below).mono ?_);rintro e w4 ⟨⟨a4,c4',rfl,hr4⟩,hb4⟩;have HW4 := Lib.hid (HW3.out.next hb4);have HN4 := Lib.hid (hr4.more RFact.steady (S' := fun q => w.heap.size + 2 ≤ q) (fun q hq _ => by have h3 := HW3.out.lt;have h2 : w3.heap.size ≤ q := hq;omega));have HK4 := Lib.hid (RdSlice.agree RFact.steady (Below.agree hb4) HK3.out);have y0 := HW4.out.rb.frozen 0;have y1 := HW4.out.rb.frozen 1;have l0 := HW4.out.rb.cell 0;have l1 := HW4.out.rb.cell 1;simp only [List.getElem?_toArray,List.getElem?_cons_zero,List.getElem?_cons_succ] at l0 l1;clear hb4 hr4)
      | (go_simp;go_at_call 65;(with_reducible refine (KO1.out _ HW1.out.below.drew).mono ?_);rintro e w3 ⟨⟨a3,c3',rfl,hr3⟩,hb3⟩;have HW3 := Lib.hid (HW1.out.drew.next hb3);have HK3 := Lib.hid (hr3.more RFact.steady (S' := fun q => w.heap.size + 2 ≤ q) (fun q hq _ => by have h3 := HW1.out.lt;have h2 : w1.heap.size ≤ q := hq;omega));have j0 := HW3.out.rb.cell 0;have j1 := HW3.out.rb.cell 1;simp only [List.getElem?_toArray,List.getElem?_cons_zero,List.getElem?_cons_succ] at j0 j1;clear hb3 hr3))
    all_goals
      go_wp2_with fail
      go_meet
      exact onRun_own (r := ⟨rk,rn,rs,rr,rd⟩) HW4.out HK4.out HN4.out
  have HON := Lib.hid hcut
  clear hcut k0 k1 z0 z1 KO1 KO2 HW1
  have HEI := Lib.hid (show stepsRun st q.1 p ⟨rk,rn,rs,rr,rd⟩ (m : Int) = iterP st q.1 p (m - 0) ⟨rk,rn,rs,rr,rd⟩ from HE.out)
  clear HE h1
  go_wp2
  go_loopw [34] (fun i wr => ∃ (j : Nat) (cur : PRun),j ≤ m ∧ i = .int .i64 j ∧ Hid (OnRun w wr cur) ∧ Hid (RunSmall cur) ∧ Hid (stepsRun st q.1 p ⟨rk,rn,rs,rr,rd⟩ (m : Int) = iterP st q.1 p (m - j) cur)) (fun i _ => m - (intOf i).toNat)
  case atStart => exact ⟨0,⟨rk,rn,rs,rr,rd⟩,Nat.zero_le _,rfl,HON,NS,HEI⟩
  case round =>
    clear HON HEI
    obtain ⟨j,⟨ck,cn,cs,cr,cd⟩,hj,rfl,HO,HNS,HE⟩ := hrel
    obtain ⟨a5,c5,b5,d5,hw5,hk5,hn5⟩ := HO.out
    have HW5 := Lib.hid hw5
    have HK5 := Lib.hid hk5
    have HN5 := Lib.hid hn5
    clear hw5 hk5 hn5 HO
    have u0 := HW5.out.rb.cell 0;have u1 := HW5.out.rb.cell 1;have u2 := HW5.out.rb.cell 2;have u3 := HW5.out.rb.cell 3;have u4 := HW5.out.rb.cell 4
    have c0 := HW5.out.q.cell 0;have c1 := HW5.out.q.cell 1;have c2 := HW5.out.q.cell 2;have c3 := HW5.out.q.cell 3;have c4 := HW5.out.q.cell 4
    have z0 := HW5.out.q.frozen 0;have z1 := HW5.out.q.frozen 1;have z2 := HW5.out.q.frozen 2;have z3 := HW5.out.q.frozen 3;have z4 := HW5.out.q.frozen 4
    simp only [List.getElem?_toArray,List.getElem?_cons_zero,List.getElem?_cons_succ] at u0 u1 u2 u3 u4 c0 c1 c2 c3 c4
    have hnq : ¬ (fun q => w.heap.size + 2 ≤ q) (w.heap.size + 1) := fun h => by have h' : w.heap.size + 2 ≤ w.heap.size + 1 := h;omega
    have HEND := Lib.hid (show iterP st q.1 p (m - j) ⟨ck,cn,cs,cr,cd⟩ = (⟨ck,cn,cs,cr,cd⟩,0) → RunPost (stepsRun st q.1 p ⟨rk,rn,rs,rr,rd⟩ (m : Int)) w (.returned (.tuple #[.agg #[.slice a5 ck.length c5,.slice b5 cn.length d5,.int .i64 cs,.int .i64 cr,.bool cd],.int .i64 0])) (((((wr.setCell ⟨w.heap.size + 1,0,none⟩ (.slice a5 ck.length c5)).setCell ⟨w.heap.size + 1,1,none⟩ (.slice b5 cn.length d5)).setCell ⟨w.heap.size + 1,2,none⟩ (.int .i64 cs)).setCell ⟨w.heap.size + 1,3,none⟩ (.int .i64 cr)).setCell ⟨w.heap.size + 1,4,none⟩ (.bool cd)) from fun he => by
      refine run_ret_ok (HE.out.trans he) ?_ ?_ ?_
      · exact ((((HW5.out.below.setCell hq1 _).setCell hq1 _).setCell hq1 _).setCell hq1 _).setCell hq1 _
      · exact RdFacts.newer (RdFacts.set_far (RdFacts.set_far (RdFacts.set_far (RdFacts.set_far (RdFacts.set_far HK5.out hnq _) hnq _) hnq _) hnq _) hnq _) (fun b hb => by have h' : w.heap.size + 2 ≤ b := hb;omega)
      · exact RdFacts.newer (RdFacts.set_far (RdFacts.set_far (RdFacts.set_far (RdFacts.set_far (RdFacts.set_far HN5.out hnq _) hnq _) hnq _) hnq _) hnq _) (fun b hb => by have h' : w.heap.size + 2 ≤ b := hb;omega))
    by_cases hlt : j < m
    · obtain ⟨l,hl⟩ : ∃ l,m - j = l + 1 := ⟨m - j - 1,by omega⟩
      have HL := Lib.hid (show m - (j + 1) = l by omega)
      rw [hl] at HE HEND
      clear hl
      cases cd
      case true =>
        have HP := Lib.hid (HEND.out (iter_done rfl))
        clear HEND HE
        go_wp2
        refine bodyPost_ret (v := .tuple #[.agg #[.slice a5 ck.length c5,.slice b5 cn.length d5,.int .i64 cs,.int .i64 cr,.bool true],.int .i64 0]) (by simp [results,Tryz.results50,go_sem,c0,c1,c2,c3,c4]) rfl HP.out
      have KP := Lib.hid (stepRunCalls p (.slice a p.length c) st q ⟨ck,cn,cs,cr,false⟩ (.slice a5 ck.length c5) (.slice b5 cn.length d5) wr HS.out (H.out.up HW5.out.below) ⟨HK5.out.any,HN5.out.any⟩ n1 N2.out N3.out HNS.out)
      have HSM := Lib.hid (step_small (st := st) (q := q) (p := p) N2.out HNS.out)
      have I1 := Lib.hid (fun he => HE.out.trans (iter_err rfl he))
      have I2 := Lib.hid (fun he => HE.out.trans (iter_next rfl he))
      clear HE HEND
      generalize stepRun st q.1 p ⟨ck,cn,cs,cr,false⟩ = x at *
      obtain ⟨⟨dk,dn,ds,dr,dd⟩,er⟩ := x
      dsimp only at *
      by_cases he : er = 0
      case neg =>
        have g2 : (er != 0) = true := by simpa using he
        have HEE := Lib.hid (I1.out he)
        clear he I1 I2
        go_wp2_with (go_at_call 83;refine (KP.out).mono ?_;rintro e w6 ⟨hb6,a6,c6,b6,d6,rfl,hk6,hn6⟩;have HW6 := Lib.hid ((HW5.out.next hb6).alloc (.cells #[.slice a6 dk.length c6,.slice b6 dn.length d6,.int .i64 ds,.int .i64 dr,.bool dd] 28));have l0 := HW6.out.q.cell 0;have l1 := HW6.out.q.cell 1;have l2 := HW6.out.q.cell 2;have l3 := HW6.out.q.cell 3;have l4 := HW6.out.q.cell 4;have y0 := HW6.out.q.frozen 0;have y1 := HW6.out.q.frozen 1;have y2 := HW6.out.q.frozen 2;have y3 := HW6.out.q.frozen 3;have y4 := HW6.out.q.frozen 4;simp only [List.getElem?_toArray,List.getElem?_cons_zero,List.getElem?_cons_succ] at l0 l1 l2 l3 l4;clear hb6 hk6 hn6 u0 u1 u2 u3 u4 c0 c1 c2 c3 c4 z0 z1 z2 z3 z4)
        refine bodyPost_ret (v := .tuple #[.agg #[.slice none 0 0,.slice none 0 0,.int .i64 0,.int .i64 0,.bool false],.int .i64 er]) (by simp [results,Tryz.results50,go_sem,l0,l1,l2,l3,l4]) rfl (run_ret_err HEE.out ?_)
        exact ((((HW6.out.below.setCell hq1 _).setCell hq1 _).setCell hq1 _).setCell hq1 _).setCell hq1 _
      subst he
      have HEE := Lib.hid (show stepsRun st q.1 p ⟨rk,rn,rs,rr,rd⟩ (m : Int) = iterP st q.1 p (m - (j + 1)) ⟨dk,dn,ds,dr,dd⟩ by rw [HL.out];exact I2.out rfl)
      clear I1 I2
      go_wp2_with (go_at_call 83;refine (KP.out).mono ?_;rintro e w6 ⟨hb6,a6,c6,b6,d6,rfl,hk6,hn6⟩;have hw6 := (HW5.out.next hb6).alloc (.cells #[.slice a6 dk.length c6,.slice b6 dn.length d6,.int .i64 ds,.int .i64 dr,.bool dd] 28);have hw5l := HW5.out.lt;have hk7 : RdFacts (fun q => w.heap.size + 2 ≤ q) (w6.alloc (.cells #[.slice a6 dk.length c6,.slice b6 dn.length d6,.int .i64 ds,.int .i64 dr,.bool dd] 28)) (.slice a6 dk.length c6) dk := (RdSlice.agree RFact.steady ((Agree.refl _ _).alloc _) hk6).more RFact.steady (fun b hb _ => by have h' : wr.heap.size ≤ b := hb;omega);have hn7 : RdFacts (fun q => w.heap.size + 2 ≤ q) (w6.alloc (.cells #[.slice a6 dk.length c6,.slice b6 dn.length d6,.int .i64 ds,.int .i64 dr,.bool dd] 28)) (.slice b6 dn.length d6) dn := (RdSlice.agree RFact.steady ((Agree.refl _ _).alloc _) hn6).more RFact.steady (fun b hb _ => by have h' : wr.heap.size ≤ b := hb;omega);have HON := Lib.hid (onRun_store (r := ⟨dk,dn,ds,dr,dd⟩) hw6 hk7 hn7);have l0 := hw6.rb.cell 0;have l1 := hw6.rb.cell 1;have l2 := hw6.rb.cell 2;have l3 := hw6.rb.cell 3;have l4 := hw6.rb.cell 4;have y0 := hw6.rb.frozen 0;have y1 := hw6.rb.frozen 1;have y2 := hw6.rb.frozen 2;have y3 := hw6.rb.frozen 3;have y4 := hw6.rb.frozen 4;simp only [List.getElem?_toArray,List.getElem?_cons_zero,List.getElem?_cons_succ] at l0 l1 l2 l3 l4;clear hb6 hk6 hn6 hw6 hk7 hn7 u0 u1 u2 u3 u4 c0 c1 c2 c3 c4 z0 z1 z2 z3 z4)
      go_roundw
      case rel => exact ⟨j + 1,⟨dk,dn,ds,dr,dd⟩,by omega,by go_num,HON,HSM,HEE⟩
      case measure => simp [intOf];omega
    · have HP := Lib.hid (HEND.out (by rw [show m - j = 0 by omega];rfl))
      clear HEND HE
      go_wp2
      refine bodyPost_ret (v := .tuple #[.agg #[.slice a5 ck.length c5,.slice b5 cn.length d5,.int .i64 cs,.int .i64 cr,.bool cd],.int .i64 0]) (by simp [results,Tryz.results50,go_sem,c0,c1,c2,c3,c4]) rfl HP.out
end Go.Proofs.YtiiicochdidolaaGreat
