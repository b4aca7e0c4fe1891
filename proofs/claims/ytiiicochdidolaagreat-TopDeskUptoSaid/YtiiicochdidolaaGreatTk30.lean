/-
  THE WALK OF round.Step.
-/
import Derived.Test.YtiiicochdidolaaGreatTk29
namespace Go.Proofs.YtiiicochdidolaaGreat
open Go.RowKit
theorem newP_len {x : PRule} {K N : List PFact} {c : Nat} (h1 : (headsP x K).1.length ≤ c) (h2 : ∀ i : Nat,(fillAll x.head (withP x.body K (i : Int) N).1).length ≤ c) : ∀ (b : List PAtom) (i : Nat) (o : List PFact) (sm : Bool),(newP x K N i b o sm).1.length ≤ o.length + b.length * c + c
  | [],i,o,sm => by
    rw [newP]
    split
    · simp only [List.length_nil,Nat.zero_mul];omega
    · simp only [List.length_nil,Nat.zero_mul];omega
  | a :: b,i,o,sm => by
    have hm : (a :: b).length * c = b.length * c + c := by rw [List.length_cons,Nat.add_mul,Nat.one_mul]
    rw [newP]
    split
    · have := newP_len h1 h2 b (i + 1) o sm
      omega
    · split
      · simp only [List.length_nil];omega
      · have := newP_len h1 h2 b (i + 1) (o ++ fillAll x.head (withP x.body K i N).1) true
        have h3 := h2 i
        rw [List.length_append] at this
        omega
theorem newP_args {x : PRule} {K N : List PFact} : ∀ (b : List PAtom) (i : Nat) (o : List PFact) (sm : Bool),(∀ z ∈ o,z.args.length = x.head.terms.length) → ∀ z ∈ (newP x K N i b o sm).1,z.args.length = x.head.terms.length
  | [],i,o,sm,h,z,hz => by
    rw [newP] at hz
    split at hz
    · exact h z hz
    · exact heads_args hz
  | a :: b,i,o,sm,h,z,hz => by
    rw [newP] at hz
    split at hz
    · exact newP_args b (i + 1) o sm h z hz
    · split at hz
      · simp at hz
      · exact newP_args b (i + 1) _ true (fun y hy => (List.mem_append.1 hy).elim (h y) fillAll_args) z hz
theorem newHeads_len {x : PRule} {K N : List PFact} (h : x.body.length ≤ 5) : (newHeads x K N).1.length ≤ 120000 := by
  have := newP_len (heads_len x K) (fun i => Nat.le_trans (fillAll_le x.head _) (with_short x.body K (i : Int) N).1) x.body 0 [] false
  unfold newHeads
  simp only [List.length_nil] at this
  have h2 : x.body.length * 20000 ≤ 5 * 20000 := Nat.mul_le_mul_right _ h
  omega
theorem newHeads_args {x : PRule} {K N : List PFact} : ∀ z ∈ (newHeads x K N).1,z.args.length = x.head.terms.length := newP_args x.body 0 [] false (by simp)
theorem make_skip {s t : Int} {K N : List PFact} {r : PRule} {ps : List (PRule × Int)} {o : List PFact} (h : t ≠ s) : makeP s K N ((r,t) :: ps) o = makeP s K N ps o := by rw [makeP,if_pos h]
theorem make_err {s t : Int} {K N : List PFact} {r : PRule} {ps : List (PRule × Int)} {o : List PFact} (h : t = s) (he : (newHeads r K N).2 ≠ 0) : makeP s K N ((r,t) :: ps) o = ([],(newHeads r K N).2) := by rw [makeP,if_neg (by simpa using h),if_pos he]
theorem make_next {s t : Int} {K N : List PFact} {r : PRule} {ps : List (PRule × Int)} {o : List PFact} (h : t = s) (he : (newHeads r K N).2 = 0) : makeP s K N ((r,t) :: ps) o = makeP s K N ps (o ++ (newHeads r K N).1) := by rw [makeP,if_neg (by simpa using h),if_neg (by simpa using he)]
theorem step_bad {st : List Int} {q : Int} {p : List PRule} {r : PRun} (h : runBad st q p r ≠ 0) : stepRun st q p r = (zeroRun,runBad st q p r) := by unfold stepRun;rw [if_pos h]
theorem step_good {st : List Int} {q : Int} {p : List PRule} {r : PRun} (h : runBad st q p r = 0) : stepRun st q p r = goodStep st p r := by unfold stepRun;rw [if_neg (by simpa using h)]
theorem good_done {st : List Int} {p : List PRule} {r : PRun} (h : r.done = true) : goodStep st p r = (r,0) := by unfold goodStep;rw [if_pos h]
theorem good_thousand {st : List Int} {p : List PRule} {r : PRun} (h : r.done = false) (h2 : r.rounds = 1000) : goodStep st p r = (zeroRun,5) := by unfold goodStep;rw [if_neg (by simp [h]),if_pos h2]
theorem good_err {st : List Int} {p : List PRule} {r : PRun} (h : r.done = false) (h2 : r.rounds ≠ 1000) (h3 : (makeP r.stratum r.known r.new (p.zip st) []).2 ≠ 0) : goodStep st p r = (zeroRun,(makeP r.stratum r.known r.new (p.zip st) []).2) := by
  unfold goodStep;rw [if_neg (by simp [h]),if_neg h2,if_pos h3]
theorem good_made {st : List Int} {p : List PRule} {r : PRun} {m : List PFact} (h : r.done = false) (h2 : r.rounds ≠ 1000) (h3 : makeP r.stratum r.known r.new (p.zip st) [] = (m,0)) :
    goodStep st p r = if 200 < (joinF r.known (lessF (ofF m) r.known)).length then (zeroRun,5) else (nextRun (countP st) r m,0) := by
  unfold goodStep;rw [if_neg (by simp [h]),if_neg h2,h3,if_neg (by simp)]
theorem mul_more {o k c : Nat} (h : o ≤ k * c) : o ≤ (k + 1) * c := Nat.le_trans h (Nat.mul_le_mul_right _ (Nat.le_succ _))
theorem mul_add {o k c h : Nat} (h1 : o ≤ k * c) (h2 : h ≤ c) : o + h ≤ (k + 1) * c := by rw [Nat.add_mul,Nat.one_mul];exact Nat.add_le_add h1 h2
theorem owned_drewN {α : Type} {k : Nat} {R : Reader α} (hR : Steady R) {B : Nat} {e : TypeId} {S : Nat → Prop} {w : World} {v : Value} {l : List α} (h : Owned k R B e S w v l) (n : Nat) : Owned k R B e S (w.drewN n) v l := h.keep hR ⟨Nat.le_refl _,fun _ _ _ => rfl⟩ fun _ _ => rfl
structure SpW (w W : World) (kv nv : Value) (s x : Int) (d : Bool) : Prop where
  below : Below w.heap.size w W
  rb : Blk W w.heap.size 28 #[kv,nv,.int .i64 s,.int .i64 x,.bool d]
  q : Blk W (w.heap.size + 1) 28 #[.slice none 0 0,.slice none 0 0,.int .i64 0,.int .i64 0,.bool false]
section
variable {w W W' : World} {kv nv : Value} {s x : Int} {d : Bool}
theorem SpW.next (h : SpW w W kv nv s x d) (hb : Below W.heap.size W W') : SpW w W' kv nv s x d := ⟨h.below.trans (hb.mono h.below.size),h.rb.below hb h.rb.lt,h.q.below hb h.q.lt⟩
theorem SpW.alloc (h : SpW w W kv nv s x d) (o : Obj) : SpW w (W.alloc o) kv nv s x d := h.next ((Below.refl _ _).alloc (Nat.le_refl _) o)
theorem SpW.drew (h : SpW w W kv nv s x d) : SpW w W.drew kv nv s x d := h.next (Below.refl _ _).drew
theorem SpW.drewN (h : SpW w W kv nv s x d) (n : Nat) : SpW w (W.drewN n) kv nv s x d := h.next (below_drewN (Below.refl _ _) n)
theorem SpW.lt (h : SpW w W kv nv s x d) : w.heap.size + 1 < W.heap.size := h.q.lt
theorem SpW.store (h : SpW w W kv nv s x d) {C i : Nat} (hC : w.heap.size + 2 ≤ C) (u : Value) : SpW w (W.setCell ⟨C,i,none⟩ u) kv nv s x d :=
  ⟨h.below.setCell (p := ⟨C,i,none⟩) (show w.heap.size ≤ C by omega) u,h.rb.far (p := ⟨C,i,none⟩) (show w.heap.size ≠ C by omega) u,h.q.far (p := ⟨C,i,none⟩) (show w.heap.size + 1 ≠ C by omega) u⟩
end
def StepCut (w wo : World) (kv nv : Value) (rs rr : Int) (nw : List PFact) (t : Value) (wx : World) : Prop :=
  ∃ C a c,t = .pointer (some ⟨C,0,none⟩) ∧ w.heap.size + 2 ≤ C ∧ wo.heap.size ≤ C ∧ SpW w wx kv nv rs rr false ∧ Below wo.heap.size wo wx ∧
    Blk wx C 28 #[.slice none 0 0,.slice a nw.length c,.int .i64 rs,.int .i64 (rr + 1),.bool false] ∧ RdFacts (fun b => b ≠ C ∧ w.heap.size + 2 ≤ b) wx (.slice a nw.length c) nw
theorem stepCut_mk {w wo W : World} {kv nv : Value} {rs rr : Int} {nw : List PFact} {C c : Nat} {a : Option Addr} (hC : wo.heap.size ≤ C) (ho : w.heap.size + 2 ≤ wo.heap.size) (hW : SpW w W kv nv rs rr false) (hB : Below wo.heap.size wo W)
    (hc : Blk W C 28 #[.slice none 0 0,.slice none 0 0,.int .i64 0,.int .i64 0,.bool false]) (hn : RdFacts (fun b => b ≠ C ∧ w.heap.size + 2 ≤ b) W (.slice a nw.length c) nw) :
    StepCut w wo kv nv rs rr nw (.pointer (some ⟨C,0,none⟩)) (((((W.setCell ⟨C,0,none⟩ (.slice none 0 0)).setCell ⟨C,1,none⟩ (.slice a nw.length c)).setCell ⟨C,2,none⟩ (.int .i64 rs)).setCell ⟨C,3,none⟩ (.int .i64 (rr + 1))).setCell ⟨C,4,none⟩ (.bool false)) := by
  have hx : ¬ (fun b => b ≠ C ∧ w.heap.size + 2 ≤ b) C := fun h => h.1 rfl
  have f1 : w.heap.size ≠ C := by omega
  have f2 : w.heap.size + 1 ≠ C := by omega
  have f3 : w.heap.size ≤ C := by omega
  refine ⟨C,a,c,rfl,by omega,hC,⟨?_,?_,?_⟩,?_,?_,?_⟩
  · exact ((((hW.below.setCell f3 _).setCell f3 _).setCell f3 _).setCell f3 _).setCell f3 _
  · exact ((((hW.rb.far (p := ⟨C,0,none⟩) f1 _).far (p := ⟨C,1,none⟩) f1 _).far (p := ⟨C,2,none⟩) f1 _).far (p := ⟨C,3,none⟩) f1 _).far (p := ⟨C,4,none⟩) f1 _
  · exact ((((hW.q.far (p := ⟨C,0,none⟩) f2 _).far (p := ⟨C,1,none⟩) f2 _).far (p := ⟨C,2,none⟩) f2 _).far (p := ⟨C,3,none⟩) f2 _).far (p := ⟨C,4,none⟩) f2 _
  · exact ((((hB.setCell hC _).setCell hC _).setCell hC _).setCell hC _).setCell hC _
  · exact ((((hc.set_ 0 (.slice none 0 0)).set_ 1 (.slice a nw.length c)).set_ 2 (.int .i64 rs)).set_ 3 (.int .i64 (rr + 1))).set_ 4 (.bool false)
  · exact RdFacts.set_far (RdFacts.set_far (RdFacts.set_far (RdFacts.set_far (RdFacts.set_far hn hx _) hx _) hx _) hx _) hx _
theorem stepCut_new {w wo W : World} {kv nv : Value} {rs rr : Int} {nw : List PFact} {c : Nat} {a : Option Addr} (ho : w.heap.size + 2 ≤ wo.heap.size) (hW : SpW w W kv nv rs rr false) (hB : Below wo.heap.size wo W) (hn : RdFacts (fun b => b < W.heap.size ∧ w.heap.size + 2 ≤ b) W (.slice a nw.length c) nw) :
    StepCut w wo kv nv rs rr nw (.pointer (some ⟨W.heap.size,0,none⟩)) (W.alloc (.cells #[.slice none 0 0,.slice a nw.length c,.int .i64 rs,.int .i64 (rr + 1),.bool false] 28)) :=
  ⟨W.heap.size,a,c,rfl,Nat.le_trans ho hB.size,hB.size,hW.alloc _,hB.alloc hB.size _,Blk.new _ _ _,(RdSlice.agree RFact.steady ((Agree.refl _ _).alloc _) hn).more RFact.steady (fun b hb _ => ⟨by have := hb.1;omega,hb.2⟩)⟩
attribute [local go_sem ↓] Go.wp_at_zero Go.wp_at_succ
set_option maxRecDepth 100000 in
set_option maxHeartbeats 16000000 in
theorem stepRunCalls {S : Nat → Prop} (p : List PRule) (v : Value) (st : List Int) (q : Int × Int) (r : PRun) (kv nv : Value) (w : World) (hS : StrataIs p st q) (h : RdRules S w v p) (hr : RunRd w r kv nv)
    (n1 : p.length ≤ 1048576) (n2 : ∀ r ∈ p,RuleSmall r) (n3 : ∀ r ∈ p,NameSmall r) (ns : RunSmall r) :
    Calls Tryz.prog 83 #[v,.agg #[kv,nv,.int .i64 r.stratum,.int .i64 r.rounds,.bool r.done]] w (RunPost (stepRun st q.1 p r) w) := by
  obtain ⟨rk,rn,rs,rr,rd⟩ := r
  obtain ⟨a,c,rfl,-,-,-⟩ := id h.form
  obtain ⟨ka,kc,rfl,-,-,-⟩ := id hr.known.form
  obtain ⟨na,nc,rfl,-,-,-⟩ := id hr.new.form
  obtain ⟨W0,hW0⟩ : ∃ W0 : World,(w.alloc (.cells #[.slice ka rk.length kc,.slice na rn.length nc,.int .i64 rs,.int .i64 rr,.bool rd] 28)).alloc (.cells #[.slice none 0 0,.slice none 0 0,.int .i64 0,.int .i64 0,.bool false] 28) = W0 := ⟨_,rfl⟩
  have hw0 : SpW w W0 (.slice ka rk.length kc) (.slice na rn.length nc) rs rr rd := by
    subst hW0
    exact ⟨((Below.refl _ _).alloc (Nat.le_refl _) _).alloc (by simp) _,(Blk.new w _ _).alloc _,heap_new_at (by simp)⟩
  have HW0 := Lib.hid hw0
  have H := Lib.hid h
  have HR := Lib.hid hr
  have N2 := Lib.hid n2
  have N3 := Lib.hid n3
  have NS := Lib.hid ns
  have HS := Lib.hid hS
  have KB := Lib.hid (runWrongCalls p _ st q ⟨rk,rn,rs,rr,rd⟩ (.slice ka rk.length kc) (.slice na rn.length nc) W0 hS (h.up hw0.below) (hr.up hw0.below) n1 n2 n3 ns)
  clear h hr n2 n3 ns hw0 hS
  have r0 := HW0.out.rb.cell 0;have r1 := HW0.out.rb.cell 1;have r2 := HW0.out.rb.cell 2;have r3 := HW0.out.rb.cell 3;have r4 := HW0.out.rb.cell 4
  simp only [List.getElem?_toArray,List.getElem?_cons_zero,List.getElem?_cons_succ] at r0 r1 r2 r3 r4
  have H0 := Lib.hid (runBad_zero (st := st) (q := q.1) (p := p) (r := ⟨rk,rn,rs,rr,rd⟩))
  have E1 := Lib.hid (step_bad (st := st) (q := q.1) (p := p) (r := ⟨rk,rn,rs,rr,rd⟩))
  have E2 := Lib.hid (step_good (st := st) (q := q.1) (p := p) (r := ⟨rk,rn,rs,rr,rd⟩))
  generalize runBad st q.1 p ⟨rk,rn,rs,rr,rd⟩ = x at *
  dsimp only at *
  by_cases hx : x = 0
  case neg =>
    have g1 : (x != 0) = true := by simpa using hx
    have HE := Lib.hid (E1.out hx)
    clear hx E1 E2 H0
    go_enter Tryz.func83,Tryz.ntmps83
    go_wp2_with (go_at_call 43;refine (KB.out).mono ?_;rintro e w1 ⟨rfl,hb1⟩;have HW1 := Lib.hid (HW0.out.next hb1);have c0 := HW1.out.q.cell 0;have c1 := HW1.out.q.cell 1;have c2 := HW1.out.q.cell 2;have c3 := HW1.out.q.cell 3;have c4 := HW1.out.q.cell 4;have z0 := HW1.out.q.frozen 0;have z1 := HW1.out.q.frozen 1;have z2 := HW1.out.q.frozen 2;have z3 := HW1.out.q.frozen 3;have z4 := HW1.out.q.frozen 4;simp only [List.getElem?_toArray,List.getElem?_cons_zero,List.getElem?_cons_succ] at c0 c1 c2 c3 c4;clear hb1 r0 r1 r2 r3 r4)
    refine bodyPost_ret (v := .tuple #[.agg #[.slice none 0 0,.slice none 0 0,.int .i64 0,.int .i64 0,.bool false],.int .i64 x]) (by simp [results,Tryz.results83,go_sem,c0,c1,c2,c3,c4]) rfl (run_ret_err HE.out ?_)
    have hq1 : w.heap.size ≤ w.heap.size + 1 := Nat.le_succ _
    exact ((((HW1.out.below.setCell hq1 _).setCell hq1 _).setCell hq1 _).setCell hq1 _).setCell hq1 _
  subst hx
  obtain ⟨hq,hok⟩ := H0.out.1 rfl
  have HOK := Lib.hid hok
  have HE := Lib.hid (E2.out rfl)
  clear E1 E2 H0 hok
  obtain ⟨hsl,h16,h5,hz16,hc0,hc17⟩ := strata_bd HS.out hq
  have HZ := Lib.hid hz16
  have H5 := Lib.hid h5
  have HSL := Lib.hid hsl
  have HQ := Lib.hid hq
  clear h5 hz16 hsl hq
  have hkl := HOK.out.known.len
  have hnl := HOK.out.new.len
  cases rd
  case true =>
    have HEE := Lib.hid (HE.out.trans (good_done rfl))
    have KO1 := Lib.hid (fun W (hW : Below w.heap.size w W) => ownReads (RdFacts.up HR.out.known hW) NS.out.k1 NS.out.k2)
    have KO2 := Lib.hid (fun W (hW : Below w.heap.size w W) => ownReads (RdFacts.up HR.out.new hW) NS.out.n1 NS.out.n2)
    clear HE
    go_enter Tryz.func83,Tryz.ntmps83
    go_wp2_with (go_at_call 43;refine (KB.out).mono ?_;rintro e w1 ⟨rfl,hb1⟩;have HW1 := Lib.hid (HW0.out.next hb1);have s0 := HW1.out.rb.cell 0;have s1 := HW1.out.rb.cell 1;have s2 := HW1.out.rb.cell 2;have s3 := HW1.out.rb.cell 3;have s4 := HW1.out.rb.cell 4;simp only [List.getElem?_toArray,List.getElem?_cons_zero,List.getElem?_cons_succ] at s0 s1 s2 s3 s4;clear hb1 r0 r1 r2 r3 r4)
    go_region_held3 (fun w' => w'.cell? ⟨w.heap.size,0,none⟩ = some (.slice ka rk.length kc) ∧ w'.cell? ⟨w.heap.size,1,none⟩ = some (.slice na rn.length nc) ∧ w'.cell? ⟨w.heap.size,2,none⟩ = some (.int .i64 rs) ∧ w'.cell? ⟨w.heap.size,3,none⟩ = some (.int .i64 rr))
      (first | (with_reducible exact ⟨j0,j1,j2,j3⟩) | (with_reducible exact ⟨k0,k1,k2,k3⟩) | go_keep)
      (first
        | (go_at_call 65;have hh := HW3.out;clear hh;(with_reducible refine (KO2.out _ HW3.out.below).mono ?_);rintro e w4 ⟨⟨a4,c4',rfl,hr4⟩,hb4⟩;have HW4 := Lib.hid (HW3.out.next hb4);have HN4 := Lib.hid hr4;have HK4 := Lib.hid (RdSlice.agree RFact.steady (Below.agree hb4) HK3.out);have j0 := HW4.out.rb.cell 0;have j1 := HW4.out.rb.cell 1;have j2 := HW4.out.rb.cell 2;have j3 := HW4.out.rb.cell 3;have c0 := HW4.out.q.cell 0;have c1 := HW4.out.q.cell 1;have c2 := HW4.out.q.cell 2;have c3 := HW4.out.q.cell 3;have c4 := HW4.out.q.cell 4;have z0 := HW4.out.q.frozen 0;have z1 := HW4.out.q.frozen 1;have z2 := HW4.out.q.frozen 2;have z3 := HW4.out.q.frozen 3;have z4 := HW4.out.q.frozen 4;simp only [List.getElem?_toArray,List.getElem?_cons_zero,List.getElem?_cons_succ] at c0 c1 c2 c3 c4 j0 j1 j2 j3;clear hb4 hr4)
        | (go_at_call 65;(with_reducible refine (KO1.out _ HW1.out.below.drew).mono ?_);rintro e w3 ⟨⟨a3,c3',rfl,hr3⟩,hb3⟩;have HW3 := Lib.hid (HW1.out.drew.next hb3);have HK3 := Lib.hid hr3;have k0 := HW3.out.rb.cell 0;have k1 := HW3.out.rb.cell 1;have k2 := HW3.out.rb.cell 2;have k3 := HW3.out.rb.cell 3;simp only [List.getElem?_toArray,List.getElem?_cons_zero,List.getElem?_cons_succ] at k0 k1 k2 k3;clear hb3 hr3))
    go_wp2
    refine bodyPost_ret (v := .tuple #[.agg #[.slice a3 rk.length c3',.slice a4 rn.length c4',.int .i64 rs,.int .i64 rr,.bool true],.int .i64 0]) (by simp [results,Tryz.results83,go_sem,c0,c1,c2,c3,c4]) rfl (run_ret_ok HEE.out ?_ ?_ ?_)
    · have hq1 : w.heap.size ≤ w.heap.size + 1 := Nat.le_succ _
      exact ((((HW4.out.below.setCell hq1 _).setCell hq1 _).setCell hq1 _).setCell hq1 _).setCell hq1 _
    · have hn : ¬ New w1.drew (w.heap.size + 1) := fun h => by have h' : w1.heap.size ≤ w.heap.size + 1 := h;have := HW1.out.lt;omega
      exact RdFacts.newer (RdFacts.set_far (RdFacts.set_far (RdFacts.set_far (RdFacts.set_far (RdFacts.set_far HK4.out hn _) hn _) hn _) hn _) hn _) (fun b hb => Nat.le_trans (Below.size HW1.out.below) hb)
    · have hn : ¬ New w3 (w.heap.size + 1) := fun h => by have h' : w3.heap.size ≤ w.heap.size + 1 := h;have := HW3.out.lt;omega
      exact RdFacts.newer (RdFacts.set_far (RdFacts.set_far (RdFacts.set_far (RdFacts.set_far (RdFacts.set_far HN4.out hn _) hn _) hn _) hn _) hn _) (fun b hb => Nat.le_trans (Below.size HW3.out.below) hb)
  by_cases hth : rr = 1000
  · have HEE := Lib.hid (HE.out.trans (good_thousand rfl hth))
    clear HE
    subst hth
    go_enter Tryz.func83,Tryz.ntmps83
    go_wp2_with (go_at_call 43;refine (KB.out).mono ?_;rintro e w1 ⟨rfl,hb1⟩;have HW1 := Lib.hid (HW0.out.next hb1);have s3 := HW1.out.rb.cell 3;have s4 := HW1.out.rb.cell 4;have c0 := HW1.out.q.cell 0;have c1 := HW1.out.q.cell 1;have c2 := HW1.out.q.cell 2;have c3 := HW1.out.q.cell 3;have c4 := HW1.out.q.cell 4;have z0 := HW1.out.q.frozen 0;have z1 := HW1.out.q.frozen 1;have z2 := HW1.out.q.frozen 2;have z3 := HW1.out.q.frozen 3;have z4 := HW1.out.q.frozen 4;simp only [List.getElem?_toArray,List.getElem?_cons_zero,List.getElem?_cons_succ] at s3 s4 c0 c1 c2 c3 c4;clear hb1 r0 r1 r2 r3 r4)
    refine bodyPost_ret (v := .tuple #[.agg #[.slice none 0 0,.slice none 0 0,.int .i64 0,.int .i64 0,.bool false],.int .i64 5]) (by simp [results,Tryz.results83,go_sem,c0,c1,c2,c3,c4]) rfl (run_ret_err HEE.out ?_)
    have hq1 : w.heap.size ≤ w.heap.size + 1 := Nat.le_succ _
    exact ((((HW1.out.below.setCell hq1 _).setCell hq1 _).setCell hq1 _).setCell hq1 _).setCell hq1 _
  have g5 : (rr == 1000) = false := beq_eq_false_iff_ne.2 hth
  have M1 := Lib.hid (fun h3 => HE.out.trans (good_err (st := st) (p := p) (r := ⟨rk,rn,rs,rr,false⟩) rfl hth h3))
  have M2 := Lib.hid (fun m h3 => HE.out.trans (good_made (st := st) (p := p) (r := ⟨rk,rn,rs,rr,false⟩) (m := m) rfl hth h3))
  dsimp only at M1 M2
  have KS := Lib.hid (fun W (hW : Below w.heap.size w W) => strataTold HS.out (H.out.up hW) n1 N2.out N3.out)
  rw [HQ.out] at KS
  generalize q.2 = q2 at *
  clear hth HE
  go_enter Tryz.func83,Tryz.ntmps83
  go_wp2_with (first
    | (go_at_call 74;have hh := HW1.out;clear hh;refine (KS.out _ HW1.out.below).mono ?_;rintro e w2 ⟨hb2,a2,c2,rfl,hr2⟩;have HW2 := Lib.hid ((HW1.out.next hb2).alloc (.cells #[.int .i64 0,.int .i64 q2] 49));have HI2 := Lib.hid (hr2.up ((Below.refl _ _).alloc (Nat.le_refl _) (.cells #[.int .i64 0,.int .i64 q2] 49)));clear hb2 hr2)
    | (go_at_call 43;refine (KB.out).mono ?_;rintro e w1 ⟨rfl,hb1⟩;have HW1 := Lib.hid (HW0.out.next hb1);have s3 := HW1.out.rb.cell 3;have s4 := HW1.out.rb.cell 4;simp only [List.getElem?_toArray,List.getElem?_cons_zero,List.getElem?_cons_succ] at s3 s4;clear hb1 r0 r1 r2 r3 r4))
  clear s3 s4 HW0 KB KS hW0 HW1
  obtain ⟨wo,hwo⟩ : ∃ wo : World,w2.alloc (.cells #[.int .i64 0,.int .i64 q2] 49) = wo := ⟨_,rfl⟩
  rw [hwo] at HW2 HI2 ⊢
  clear hwo
  have hwl := HW2.out.lt
  have HBO := Lib.hid (Below.refl wo.heap.size wo)
  go_loopw [45,9] (fun i v wr => ∃ (k : Nat) (o : List PFact),k ≤ p.length ∧ i = .int .i64 k ∧ o.length ≤ k * 120000 ∧ Hid (∀ y ∈ o,y.args.length ≤ 1048576) ∧ Hid (Owned 2 RFact wo.heap.size 38 (New wo) wr v o) ∧ Hid (Below wo.heap.size wo wr) ∧ Hid (makeP rs rk rn (p.zip st) [] = makeP rs rk rn ((p.zip st).drop k) o)) (fun i _ _ => p.length - (intOf i).toNat)
  case atStart => exact ⟨0,[],Nat.zero_le _,rfl,Nat.le_refl _,Lib.hid (by simp),Lib.hid Owned.nil,HBO,Lib.hid rfl⟩
  case round =>
    clear HBO
    obtain ⟨k,o,hk,rfl,hol,HOA,HO,HB,HM⟩ := hrel
    obtain ⟨va,vc,efm,-,-,-⟩ := (HO.out.read RFact.steady).form
    subst efm
    have HWW := Lib.hid (HW2.out.next HB.out)
    have hbs := HB.out.size
    by_cases hlt : k < p.length
    · obtain ⟨x,hx⟩ : ∃ x,p[k]? = some x := ⟨_,List.getElem?_eq_getElem hlt⟩
      obtain ⟨t,hst⟩ : ∃ s,st[k]? = some s := ⟨_,List.getElem?_eq_getElem (by rw [HSL.out];omega)⟩
      have hmem := List.mem_of_getElem? hx
      obtain ⟨b1,o1,ta,tc,ba,bc,rfl,hra⟩ := H.out.pick hx
      have HRA := Lib.hid hra
      obtain ⟨b2,o2,rfl,-,hb2,e0⟩ := RdInts.at HI2.out hst
      have f0 := (cell_below HB.out hb2 _).trans e0
      have w2s := HWW.out.rb.cell 2
      simp only [List.getElem?_toArray,List.getElem?_cons_zero,List.getElem?_cons_succ] at w2s
      have HM1 := Lib.hid (show makeP rs rk rn (p.zip st) [] = makeP rs rk rn ((x,t) :: (p.zip st).drop (k + 1)) o by rw [HM.out,at_drop (zip_at hx hst)])
      have i3 : (k : Int) < (st.length : Int) := by rw [HSL.out];omega
      have i4 : (0 : Int) ≤ (k : Int) := by omega
      clear hx hst hra HM e0
      by_cases hts : t = rs
      case neg =>
        have g1 : (t != rs) = true := by simpa using hts
        have HM2 := Lib.hid (HM1.out.trans (make_skip hts))
        have hol2 := mul_more hol
        clear hts HM1
        go_wp2
        go_quiet (fail)
        go_wp2
        go_roundw
        case rel => exact ⟨k + 1,o,by omega,by go_num,hol2,HOA,Lib.hid (owned_drewN RFact.steady HO.out _),Lib.hid (below_drewN HB.out _),HM2⟩
        case measure => simp [intOf];omega
      have g1 : (t != rs) = false := by simpa using hts
      have KN := Lib.hid (fun n => newHeadsCalls x b1 (o1 + k * 4) _ _ w.heap.size ⟨rk,rn,rs,rr,false⟩ _ _ (wr.drewN n) (HRA.out.up (below_drewN HWW.out.below n)) (HWW.out.drewN n).rb (RdFacts.up HR.out.known (below_drewN HWW.out.below n)) (RdFacts.up HR.out.new (below_drewN HWW.out.below n)) (N2.out x hmem) (H5.out x hmem) NS.out)
      dsimp only at KN
      have N1 := Lib.hid (newHeads_len (K := rk) (N := rn) (H5.out x hmem))
      have NA := Lib.hid (show ∀ z ∈ (newHeads x rk rn).1,z.args.length ≤ 1048576 from fun z hz => by rw [newHeads_args z hz];exact (N2.out x hmem).h1)
      have P1 := Lib.hid (fun he => HM1.out.trans (make_err hts he))
      have P2 := Lib.hid (fun he => HM1.out.trans (make_next hts he))
      clear hts HM1 hmem
      generalize newHeads x rk rn = nh at *
      obtain ⟨hl,er⟩ := nh
      dsimp only at *
      go_wp2
      go_quiet (fail)
      by_cases he : er = 0
      case neg =>
        have g2 : (er != 0) = true := by simpa using he
        have HMM := Lib.hid (P1.out he)
        have HEE := Lib.hid (M1.out (by rw [HMM.out];exact he))
        rw [HMM.out] at HEE
        clear he P1 P2 M1 M2 HMM
        go_wp2_with (go_at_call 114;refine (KN.out _).mono ?_;rintro e w5 ⟨hb5,v5,rfl,ho5⟩;obtain ⟨a5,c5,rfl,-,-,-⟩ := id (ho5.read RFact.steady).form;have HW5 := Lib.hid ((HWW.out.drewN _).next hb5);have c0 := HW5.out.q.cell 0;have c1 := HW5.out.q.cell 1;have c2 := HW5.out.q.cell 2;have c3 := HW5.out.q.cell 3;have c4 := HW5.out.q.cell 4;have z0 := HW5.out.q.frozen 0;have z1 := HW5.out.q.frozen 1;have z2 := HW5.out.q.frozen 2;have z3 := HW5.out.q.frozen 3;have z4 := HW5.out.q.frozen 4;simp only [List.getElem?_toArray,List.getElem?_cons_zero,List.getElem?_cons_succ] at c0 c1 c2 c3 c4;clear hb5 ho5)
        refine bodyPost_ret (v := .tuple #[.agg #[.slice none 0 0,.slice none 0 0,.int .i64 0,.int .i64 0,.bool false],.int .i64 er]) (by simp [results,Tryz.results83,go_sem,c0,c1,c2,c3,c4]) rfl (run_ret_err HEE.out ?_)
        have hq1 : w.heap.size ≤ w.heap.size + 1 := Nat.le_succ _
        exact ((((HW5.out.below.setCell hq1 _).setCell hq1 _).setCell hq1 _).setCell hq1 _).setCell hq1 _
      subst he
      have HMM := Lib.hid (P2.out rfl)
      have hol2 : (o ++ hl).length ≤ (k + 1) * 120000 := by rw [List.length_append];exact mul_add hol N1.out
      have hbig : o.length + hl.length < 1099511627776 := by
        have h1 : (o ++ hl).length = o.length + hl.length := List.length_append
        have h2 : (k + 1) * 120000 ≤ 16 * 120000 := Nat.mul_le_mul_right _ (by omega)
        omega
      have HOA2 := Lib.hid (show ∀ z ∈ o ++ hl,z.args.length ≤ 1048576 from fun z hz => (List.mem_append.1 hz).elim (HOA.out z) (NA.out z))
      clear P1 P2
      go_wp2_with (first
        | (go_at_call 114;refine (KN.out _).mono ?_;rintro e w5 ⟨hb5,v5,rfl,ho5⟩;obtain ⟨a5,c5,rfl,-,-,-⟩ := id (ho5.read RFact.steady).form;have HB5 := Lib.hid ((below_drewN HB.out _).trans (hb5.mono hbs));have HO5 := Lib.hid ((owned_drewN RFact.steady HO.out _).below RFact.steady hb5);have HH5 := Lib.hid ((ho5.read RFact.steady).more RFact.steady (S' := New wr) (fun b hb _ => hb.elim id id));clear hb5 ho5)
        | (at_builtin;refine wpList_append_many (B := wo.heap.size) (e := 38) (S := New wo) (by rfl) _ _ 24 (by rfl) RFact.steady RFact.one rowFacts _ o (by rfl) HO5.out _ hl (by rfl) HH5.out (fun cs x' hr => RFact.steady.more (fun q hq _ => ⟨Nat.le_trans hbs hq,fun e => by have h1 := (HO.out.row_lt e.symm).2;have h2 : wr.heap.size ≤ q := hq;omega⟩) hr) hbig (Below.size HB5.out) ?_;intro v7 w7 hown7 hg7 hat7;have HO7 := Lib.hid hown7;have HB7 := Lib.hid (HB5.out.grown hg7 (Below.size HB5.out) (fun q hq => (HO5.out.row_lt hq).1));clear hown7 hg7 hat7))
      go_roundw
      case rel => exact ⟨k + 1,_,by omega,by go_num,hol2,HOA2,HO7,HB7,HMM⟩
      case measure => simp [intOf];omega
    · have HMM := Lib.hid (show makeP rs rk rn (p.zip st) [] = (o,0) by rw [HM.out,List.drop_eq_nil_of_le (by rw [List.length_zip];omega)];rfl)
      have HEE := Lib.hid (M2.out o HMM.out)
      have hol2 : o.length ≤ 16 * 120000 := Nat.le_trans hol (Nat.mul_le_mul_right _ (by omega))
      clear M1 M2 HM
      have hr0 := HOK.out.r0
      have hr1 := HOK.out.r1
      have hs0 := HOK.out.s0
      have hs1 := HOK.out.s1
      dsimp only at hr0 hr1 hs0 hs1
      have hwr : IntKind.i64.wrap (rr + 1) = rr + 1 := by rw [IntKind.wrap_i64];omega
      have hws : IntKind.i64.wrap (rs + 1) = rs + 1 := by rw [IntKind.wrap_i64];omega
      have KO := Lib.hid (fun W (hW : Below wr.heap.size wr W) => ofCalls _ o W (RdFacts.up (HO.out.read RFact.steady) hW) (by omega) (fun y hy => by have := HOA.out y hy;omega))
      have HOF := Lib.hid (ofF_length o)
      have HFA := Lib.hid (show ∀ y ∈ ofF o,y.args.length ≤ 1048576 from fun y hy => HOA.out y ((mem_ofF y o).1 hy))
      have KL := Lib.hid (fun W va (hW : Below w.heap.size w W) (h1 : RdFacts (fun _ => True) W va (ofF o)) => lessCalls va (.slice ka rk.length kc) (ofF o) rk W h1 (RdFacts.up HR.out.known hW) HOK.out.known.rise (by have := HOF.out;omega) (fun y hy => by have := HFA.out y hy;omega) (by have := NS.out.k1;omega) (fun y hy => by have := NS.out.k2 y hy;omega))
      have HNL := Lib.hid (show (lessF (ofF o) rk).length ≤ 16 * 120000 from Nat.le_trans (List.length_filter_le _ _) (by have := HOF.out;omega))
      have HNA := Lib.hid (show ∀ y ∈ lessF (ofF o) rk,y.args.length ≤ 1048576 from fun y hy => HFA.out y (List.mem_filter.1 hy).1)
      have HNX := Lib.hid (show nextRun (countP st) ⟨rk,rn,rs,rr,false⟩ o = if lessF (ofF o) rk = [] then ⟨joinF rk (lessF (ofF o) rk),joinF rk (lessF (ofF o) rk),rs + 1,rr + 1,rs + 1 == countP st⟩ else ⟨joinF rk (lessF (ofF o) rk),lessF (ofF o) rk,rs,rr + 1,false⟩ from rfl)
      try dsimp only at HEE
      rw [HNX.out] at HEE
      have hz0 := HWW.out.lt
      have q0 := HWW.out.rb.cell 0;have q2' := HWW.out.rb.cell 2;have q3 := HWW.out.rb.cell 3
      simp only [List.getElem?_toArray,List.getElem?_cons_zero,List.getElem?_cons_succ] at q0 q2' q3
      clear HFA HMM HNX
      generalize ofF o = of at *
      generalize lessF of rk = nw at *
      have KJ := Lib.hid (fun W vb (hW : Below w.heap.size w W) (h2 : RdFacts (fun _ => True) W vb nw) => joinCalls (.slice ka rk.length kc) vb rk nw W (RdFacts.up HR.out.known hW) h2 (by have := HNL.out;have := NS.out.k1;omega) (fun y hy => by have := NS.out.k2 y hy;omega) (fun y hy => by have := HNA.out y hy;omega))
      have HJA := Lib.hid (show ∀ y ∈ joinF rk nw,y.args.length ≤ 1048576 from fun y hy => (by rcases (mem_joinF _ _ y).1 hy with h | h;(· exact NS.out.k2 y h);(· exact HNA.out y h)))
      generalize joinF rk nw = kn at *
      have hy1 : w.heap.size < wr.heap.size := by omega
      have hy2 : wr.heap.size ≠ w.heap.size := by omega
      have hy3 : w.heap.size ≠ wr.heap.size := by omega
      have HBR := Lib.hid HB.out.drew
      have HBS := Lib.hid (Below.refl wr.heap.size wr).drew
      go_wp2_with fail
      go_cut [13] (fun t wx => StepCut w wo (.slice ka rk.length kc) (.slice na rn.length nc) rs rr nw t wx)
      case first =>
        go_region_held3 (fun w' => w'.cell? ⟨w.heap.size,0,none⟩ = some (.slice ka rk.length kc) ∧ w'.cell? ⟨w.heap.size,2,none⟩ = some (.int .i64 rs) ∧ w'.cell? ⟨w.heap.size,3,none⟩ = some (.int .i64 rr))
          (first | (with_reducible exact ⟨j0,j2,j3⟩) | (with_reducible exact ⟨k0,k2,k3⟩) | go_keep)
          (first
            | (go_at_call 14;have hh := HW5.out;clear hh;(with_reducible refine (KL.out _ _ (HW5.out.alloc (.cells #[.slice none 0 0,.slice none 0 0,.int .i64 0,.int .i64 0,.bool false] 28)).below (RdFacts.up HF5.out ((Below.refl _ _).alloc (Nat.le_refl _) (.cells #[.slice none 0 0,.slice none 0 0,.int .i64 0,.int .i64 0,.bool false] 28)))).mono ?_);rintro e w6 ⟨⟨v6,rfl,ho6⟩,hb6⟩;obtain ⟨a6,c6,rfl,-,-,-⟩ := id (ho6.read RFact.steady).form;have HW6 := Lib.hid ((HW5.out.alloc (.cells #[.slice none 0 0,.slice none 0 0,.int .i64 0,.int .i64 0,.bool false] 28)).next hb6);have HB6 := Lib.hid ((HB5.out.alloc (Below.size HB5.out) (.cells #[.slice none 0 0,.slice none 0 0,.int .i64 0,.int .i64 0,.bool false] 28)).trans (hb6.mono (Nat.le_trans (Below.size HB5.out) (by simp))));have HC6 := Lib.hid ((Blk.new w5 28 #[.slice none 0 0,.slice none 0 0,.int .i64 0,.int .i64 0,.bool false]).below hb6 (by simp));have HN6 := Lib.hid ((ho6.read RFact.steady).more RFact.steady (S' := fun b => b ≠ w5.heap.size ∧ w.heap.size + 2 ≤ b) (fun b hb _ => by have h2 : (w5.alloc (.cells #[.slice none 0 0,.slice none 0 0,.int .i64 0,.int .i64 0,.bool false] 28)).heap.size ≤ b := hb.elim id id;have h3 := HW5.out.lt;simp at h2;constructor <;> omega));have c0 := HC6.out.cell 0;have c1 := HC6.out.cell 1;have c2 := HC6.out.cell 2;have c3 := HC6.out.cell 3;have c4 := HC6.out.cell 4;have z0 := HC6.out.frozen 0;have z1 := HC6.out.frozen 1;have z2 := HC6.out.frozen 2;have z3 := HC6.out.frozen 3;have z4 := HC6.out.frozen 4;simp only [List.getElem?_toArray,List.getElem?_cons_zero,List.getElem?_cons_succ] at c0 c1 c2 c3 c4;have j0 := HW6.out.rb.cell 0;have j2 := HW6.out.rb.cell 2;have j3 := HW6.out.rb.cell 3;simp only [List.getElem?_toArray,List.getElem?_cons_zero,List.getElem?_cons_succ] at j0 j2 j3;have hz6 := HW6.out.lt;have hz7 : w.heap.size < w6.heap.size := (by omega);have hz8 : w6.heap.size ≠ w.heap.size := (by omega);have hz9 : w.heap.size ≠ w6.heap.size := (by omega);clear hb6 ho6)
            | (go_at_call 14;have hh := HC5.out;clear hh;(with_reducible refine (KL.out _ _ HW5.out.below HF5.out).mono ?_);rintro e w6 ⟨⟨v6,rfl,ho6⟩,hb6⟩;obtain ⟨a6,c6,rfl,-,-,-⟩ := id (ho6.read RFact.steady).form;have HW6 := Lib.hid (HW5.out.next hb6);have HB6 := Lib.hid (HB5.out.trans (hb6.mono (Below.size HB5.out)));have HC6 := Lib.hid (HC5.out.below hb6 HC5.out.lt);have HN6 := Lib.hid ((ho6.read RFact.steady).more RFact.steady (S' := fun b => b ≠ wr.heap.size ∧ w.heap.size + 2 ≤ b) (fun b hb _ => by have h1 := HC5.out.lt;have h3 := HW5.out.lt;have h2 : w5.heap.size ≤ b := hb.elim id id;constructor <;> omega));have c0 := HC6.out.cell 0;have c1 := HC6.out.cell 1;have c2 := HC6.out.cell 2;have c3 := HC6.out.cell 3;have c4 := HC6.out.cell 4;have z0 := HC6.out.frozen 0;have z1 := HC6.out.frozen 1;have z2 := HC6.out.frozen 2;have z3 := HC6.out.frozen 3;have z4 := HC6.out.frozen 4;simp only [List.getElem?_toArray,List.getElem?_cons_zero,List.getElem?_cons_succ] at c0 c1 c2 c3 c4;have j0 := HW6.out.rb.cell 0;have j2 := HW6.out.rb.cell 2;have j3 := HW6.out.rb.cell 3;simp only [List.getElem?_toArray,List.getElem?_cons_zero,List.getElem?_cons_succ] at j0 j2 j3;have hz6 := HW6.out.lt;have hz7 : w.heap.size < w6.heap.size := (by omega);have hz8 : w6.heap.size ≠ w.heap.size := (by omega);have hz9 : w.heap.size ≠ w6.heap.size := (by omega);clear hb6 ho6)
            | (go_at_call 14;have hh := HW5.out;clear hh;(with_reducible refine (KL.out _ _ HW5.out.below HF5.out).mono ?_);rintro e w6 ⟨⟨v6,rfl,ho6⟩,hb6⟩;obtain ⟨a6,c6,rfl,-,-,-⟩ := id (ho6.read RFact.steady).form;have HW6 := Lib.hid (HW5.out.next hb6);have HB6 := Lib.hid (HB5.out.trans (hb6.mono (Below.size HB5.out)));have HN6 := Lib.hid ((ho6.read RFact.steady).more RFact.steady (S' := fun b => b < w6.heap.size ∧ w.heap.size + 2 ≤ b) (fun b hb hl => ⟨hl,by have h3 := HW5.out.lt;have h2 : w5.heap.size ≤ b := hb.elim id id;omega⟩));have j0 := HW6.out.rb.cell 0;have j2 := HW6.out.rb.cell 2;have j3 := HW6.out.rb.cell 3;simp only [List.getElem?_toArray,List.getElem?_cons_zero,List.getElem?_cons_succ] at j0 j2 j3;have hz6 := HW6.out.lt;have hz7 : w.heap.size < w6.heap.size := (by omega);have hz8 : w6.heap.size ≠ w.heap.size := (by omega);have hz9 : w.heap.size ≠ w6.heap.size := (by omega);clear hb6 ho6)
            | (go_at_call 32;(with_reducible refine (KO.out _ ((Below.refl _ _).alloc (Nat.le_refl _) (.cells #[.slice none 0 0,.slice none 0 0,.int .i64 0,.int .i64 0,.bool false] 28)).drew).mono ?_);rintro e w5 ⟨⟨v5,rfl,ho5⟩,hb5⟩;obtain ⟨a5,c5,rfl,-,-,-⟩ := id (ho5.read RFact.steady).form;have HW5 := Lib.hid ((HWW.out.alloc (.cells #[.slice none 0 0,.slice none 0 0,.int .i64 0,.int .i64 0,.bool false] 28)).drew.next hb5);have HB5 := Lib.hid ((HB.out.alloc hbs (.cells #[.slice none 0 0,.slice none 0 0,.int .i64 0,.int .i64 0,.bool false] 28)).drew.trans (hb5.mono (Nat.le_trans hbs (by simp))));have HC5 := Lib.hid (show Blk w5 wr.heap.size 28 #[.slice none 0 0,.slice none 0 0,.int .i64 0,.int .i64 0,.bool false] from (Blk.new wr _ _).drew.below hb5 (by simp));have HF5 := Lib.hid ((ho5.read RFact.steady).more RFact.steady (S' := fun _ => True) (fun _ _ _ => trivial));have k0 := HW5.out.rb.cell 0;have k2 := HW5.out.rb.cell 2;have k3 := HW5.out.rb.cell 3;simp only [List.getElem?_toArray,List.getElem?_cons_zero,List.getElem?_cons_succ] at k0 k2 k3;have hz5 := HW5.out.lt;have hz51 : w.heap.size < w5.heap.size := (by omega);have hz52 : w5.heap.size ≠ w.heap.size := (by omega);have hz53 : w.heap.size ≠ w5.heap.size := (by omega);clear ho5;clear hb5)
            | (go_at_call 32;(with_reducible refine (KO.out _ HBS.out).mono ?_);rintro e w5 ⟨⟨v5,rfl,ho5⟩,hb5⟩;obtain ⟨a5,c5,rfl,-,-,-⟩ := id (ho5.read RFact.steady).form;have HW5 := Lib.hid (HWW.out.drew.next hb5);have HB5 := Lib.hid (HBR.out.trans (hb5.mono hbs));have HF5 := Lib.hid ((ho5.read RFact.steady).more RFact.steady (S' := fun _ => True) (fun _ _ _ => trivial));have k0 := HW5.out.rb.cell 0;have k2 := HW5.out.rb.cell 2;have k3 := HW5.out.rb.cell 3;simp only [List.getElem?_toArray,List.getElem?_cons_zero,List.getElem?_cons_succ] at k0 k2 k3;have hz5 := HW5.out.lt;have hz51 : w.heap.size < w5.heap.size := (by omega);have hz52 : w5.heap.size ≠ w.heap.size := (by omega);have hz53 : w.heap.size ≠ w5.heap.size := (by omega);clear ho5))
        all_goals
          go_wp2_with fail
          go_meet
          have hwol := HW2.out.lt
          first
            | (with_reducible refine stepCut_mk (W := w6) (C := wr.heap.size) ?_ ?_ HW6.out HB6.out HC6.out HN6.out) <;> (first | exact hbs | omega)
            | (with_reducible refine stepCut_mk (W := w6) (C := w5.heap.size) ?_ ?_ HW6.out HB6.out HC6.out HN6.out) <;> (first | exact Below.size HB5.out | omega)
            | ((with_reducible refine stepCut_new (W := w6) ?_ HW6.out HB6.out HN6.out);omega)
      obtain ⟨C,na',nc',rfl,hC,hCo,hWx,hBx,hCx,hNx⟩ := hcut
      have HWX := Lib.hid hWx
      have HBX := Lib.hid hBx
      have HCX := Lib.hid hCx
      have HNX := Lib.hid hNx
      clear hWx hBx hCx hNx HB HBR HBS HWW HO KO KL q0 q2' q3
      have hne1 : C ≠ w.heap.size + 1 := by omega
      have hne2 : w.heap.size + 1 ≠ C := by omega
      have hne3 : C ≠ w.heap.size := by omega
      have hne4 : w.heap.size ≠ C := by omega
      have hq1 : w.heap.size ≤ w.heap.size + 1 := Nat.le_succ _
      have hCw : w.heap.size ≤ C := by omega
      have p0 := HWX.out.rb.cell 0
      have p1 := HCX.out.cell 1
      simp only [List.getElem?_toArray,List.getElem?_cons_zero,List.getElem?_cons_succ] at p0 p1
      by_cases hm : 200 < kn.length
      · have HEM := Lib.hid (HEE.out.trans (if_pos hm))
        have i5 : (200 : Int) < (kn.length : Int) := by omega
        clear hm HEE
        go_wp2_with (go_at_call 80;refine (KJ.out _ _ HWX.out.below HNX.out.any).mono ?_;rintro e w7 ⟨⟨v7,rfl,ho7⟩,hb7⟩;obtain ⟨a7,c7,rfl,-,-,-⟩ := id (ho7.read RFact.steady).form;have HW7 := Lib.hid (HWX.out.next hb7);have HC7 := Lib.hid (HCX.out.below hb7 HCX.out.lt);have y0 := HC7.out.cell 0;have y5 := HC7.out.frozen 0;have c0 := HW7.out.q.cell 0;have c1 := HW7.out.q.cell 1;have c2 := HW7.out.q.cell 2;have c3 := HW7.out.q.cell 3;have c4 := HW7.out.q.cell 4;have z0 := HW7.out.q.frozen 0;have z1 := HW7.out.q.frozen 1;have z2 := HW7.out.q.frozen 2;have z3 := HW7.out.q.frozen 3;have z4 := HW7.out.q.frozen 4;simp only [List.getElem?_toArray,List.getElem?_cons_zero,List.getElem?_cons_succ] at y0 c0 c1 c2 c3 c4;clear hb7 ho7 p0 p1)
        refine bodyPost_ret (v := .tuple #[.agg #[.slice none 0 0,.slice none 0 0,.int .i64 0,.int .i64 0,.bool false],.int .i64 5]) (by simp [results,Tryz.results83,go_sem,c0,c1,c2,c3,c4]) rfl (run_ret_err HEM.out ?_)
        exact (((((HW7.out.below.setCell hCw _).setCell hq1 _).setCell hq1 _).setCell hq1 _).setCell hq1 _).setCell hq1 _
      have i5 : ¬ (200 : Int) < (kn.length : Int) := by omega
      have HEO := Lib.hid (HEE.out.trans (if_neg hm))
      have hknl : kn.length ≤ 1048576 := by omega
      have HNO := Lib.hid hC
      clear hm HEE hC
      by_cases hnw : nw = []
      · subst hnw
        have HEN := Lib.hid (show stepRun st q.1 p ⟨rk,rn,rs,rr,false⟩ = (⟨kn,kn,rs + 1,rr + 1,rs + 1 == countP st⟩,0) from HEO.out.trans (by rw [if_pos rfl]))
        have KOW := Lib.hid (fun W va (h1 : RdFacts (fun _ => True) W va kn) => ownReads h1 hknl HJA.out)
        have KC := Lib.hid (fun W sv (h1 : RdInts (fun _ => True) W sv st) => countCalls sv st W h1 (by rw [HSL.out];omega) (fun z hz => by have := HZ.out z hz;omega))
        clear HEO HJA
        obtain ⟨dn,hdn⟩ : ∃ dn,(rs + 1 == countP st) = dn := ⟨_,rfl⟩
        rw [hdn] at HEN
        generalize countP st = cn at *
        have hn1 : ¬ (fun b => b ≠ C ∧ w.heap.size + 2 ≤ b) C := fun h => h.1 rfl
        have hn2 : ¬ (fun b => b ≠ C ∧ w.heap.size + 2 ≤ b) (w.heap.size + 1) := fun h => by have := h.2;omega
        simp only [List.length_nil] at HCX p1
        go_wp2_with (first
          | (go_at_call 80;refine (KJ.out _ _ HWX.out.below HNX.out.any).mono ?_;rintro e w7 ⟨⟨v7,rfl,ho7⟩,hb7⟩;obtain ⟨a7,c7,rfl,-,-,-⟩ := id (ho7.read RFact.steady).form;have hw7 := HWX.out.next hb7;have hc7 := HCX.out.below hb7 HCX.out.lt;have HB7 := Lib.hid (HBX.out.trans (hb7.mono (Below.size HBX.out)));have hk7 : RdFacts (fun b => b ≠ C ∧ w.heap.size + 2 ≤ b) w7 (.slice a7 kn.length c7) kn := (ho7.read RFact.steady).more RFact.steady (fun b hb _ => by have h1 := HCX.out.lt;have h3 := HWX.out.lt;have h2 := hb.elim id id;constructor <;> omega);have y0 := hc7.cell 0;have y1 := hc7.cell 1;have y2 := hc7.cell 2;have x0 := hc7.frozen 0;have x2 := hc7.frozen 2;simp only [List.getElem?_toArray,List.getElem?_cons_zero,List.getElem?_cons_succ] at y0 y1 y2;have HW8 := Lib.hid ((hw7.store (i := 0) HNO.out (.slice a7 kn.length c7)).store (i := 2) HNO.out (.int .i64 (rs + 1)));have HC8 := Lib.hid (show Blk ((w7.setCell ⟨C,0,none⟩ (.slice a7 kn.length c7)).setCell ⟨C,2,none⟩ (.int .i64 (rs + 1))) C 28 #[.slice a7 kn.length c7,.slice na' 0 nc',.int .i64 (rs + 1),.int .i64 (rr + 1),.bool false] from (hc7.set_ 0 (.slice a7 kn.length c7)).set_ 2 (.int .i64 (rs + 1)));have HK8 := Lib.hid (RdFacts.set_far (RdFacts.set_far hk7 hn1 (p := ⟨C,0,none⟩) (.slice a7 kn.length c7)) hn1 (p := ⟨C,2,none⟩) (.int .i64 (rs + 1)));have HB8 := Lib.hid ((HB7.out.setCell (p := ⟨C,0,none⟩) hCo (.slice a7 kn.length c7)).setCell (p := ⟨C,2,none⟩) hCo (.int .i64 (rs + 1)));clear hb7 ho7 hw7 hc7 hk7 p0 p1)
          | (go_at_call 65;have hh := HK8.out;clear hh;refine (KOW.out _ _ HK8.out.any).mono ?_;rintro e w9 ⟨⟨a9,c9,rfl,hr9⟩,hb9⟩;have HW9 := Lib.hid (HW8.out.next hb9);have HC9 := Lib.hid (HC8.out.below hb9 HC8.out.lt);have HK9 := Lib.hid (RdSlice.agree RFact.steady (Below.agree hb9) HK8.out);have HN9 := Lib.hid (hr9.more RFact.steady (S' := fun b => b ≠ C ∧ w.heap.size + 2 ≤ b) (fun b hb _ => by have h1 := HC8.out.lt;have h3 := HW8.out.lt;have h2 : _ ≤ b := hb;constructor <;> omega));have HB9 := Lib.hid (HB8.out.trans (hb9.mono (Below.size HB8.out)));have u0 := HC9.out.cell 0;have u1 := HC9.out.cell 1;have u2 := HC9.out.cell 2;have u3 := HC9.out.cell 3;have u4 := HC9.out.cell 4;have x1 := HC9.out.frozen 1;have x4 := HC9.out.frozen 4;simp only [List.getElem?_toArray,List.getElem?_cons_zero,List.getElem?_cons_succ] at u0 u1 u2 u3 u4;clear hb9 hr9 y0 y1 y2 x0 x2))
        have HW10 := Lib.hid (HW9.out.store (i := 1) HNO.out (.slice a9 kn.length c9))
        have HC10 := Lib.hid (show Blk (w9.setCell ⟨C,1,none⟩ (.slice a9 kn.length c9)) C 28 #[.slice a7 kn.length c7,.slice a9 kn.length c9,.int .i64 (rs + 1),.int .i64 (rr + 1),.bool false] from HC9.out.set_ 1 (.slice a9 kn.length c9))
        have HK10 := Lib.hid (RdFacts.set_far HK9.out hn1 (p := ⟨C,1,none⟩) (.slice a9 kn.length c9))
        have HN10 := Lib.hid (RdFacts.set_far HN9.out hn1 (p := ⟨C,1,none⟩) (.slice a9 kn.length c9))
        have HB10 := Lib.hid (HB9.out.setCell (p := ⟨C,1,none⟩) hCo (.slice a9 kn.length c9))
        clear HW8 HW9 HC8 HC9 HK8 HK9 HN9 HB8 HB9 HB7 u0 u1 u2 u3 u4 x1 x4
        generalize w9.setCell ⟨C,1,none⟩ (.slice a9 kn.length c9) = w10 at *
        have u2 := HC10.out.cell 2
        have u4 := HC10.out.cell 4
        have x4 := HC10.out.frozen 4
        simp only [List.getElem?_toArray,List.getElem?_cons_zero,List.getElem?_cons_succ] at u2 u4
        have HW11 := Lib.hid (HW10.out.store (i := 4) HNO.out (.bool dn)).drew
        have HC11 := Lib.hid (show Blk (w10.setCell ⟨C,4,none⟩ (.bool dn)).drew C 28 #[.slice a7 kn.length c7,.slice a9 kn.length c9,.int .i64 (rs + 1),.int .i64 (rr + 1),.bool dn] from (HC10.out.set_ 4 (.bool dn)).drew)
        have HK11 := Lib.hid (show RdFacts (fun b => b ≠ C ∧ w.heap.size + 2 ≤ b) (w10.setCell ⟨C,4,none⟩ (.bool dn)).drew (.slice a7 kn.length c7) kn from RdSlice.agree RFact.steady (Agree.refl _ _).drew (RdFacts.set_far HK10.out hn1 (p := ⟨C,4,none⟩) (.bool dn)))
        have HN11 := Lib.hid (show RdFacts (fun b => b ≠ C ∧ w.heap.size + 2 ≤ b) (w10.setCell ⟨C,4,none⟩ (.bool dn)).drew (.slice a9 kn.length c9) kn from RdSlice.agree RFact.steady (Agree.refl _ _).drew (RdFacts.set_far HN10.out hn1 (p := ⟨C,4,none⟩) (.bool dn)))
        have hset := HC11.out.cell 2
        simp only [List.getElem?_toArray,List.getElem?_cons_zero,List.getElem?_cons_succ] at hset
        go_region_held3 (fun w' => w'.cell? ⟨C,2,none⟩ = some (.int .i64 (rs + 1))) (first | (with_reducible exact hset) | go_keep)
          (first | (go_at_call 76;refine (KC.out _ _ (HI2.out.up HB10.out.drew)).mono ?_;rintro e w11 ⟨rfl,rfl⟩))
        clear hset HW10 HC10 HK10 HN10
        clear u2 u4 x4
        generalize (w10.setCell ⟨C,4,none⟩ (.bool dn)).drew = w12 at *
        have u0 := HC11.out.cell 0;have u1 := HC11.out.cell 1;have u2 := HC11.out.cell 2;have u3 := HC11.out.cell 3;have u4 := HC11.out.cell 4
        have c0 := HW11.out.q.cell 0;have c1 := HW11.out.q.cell 1;have c2 := HW11.out.q.cell 2;have c3 := HW11.out.q.cell 3;have c4 := HW11.out.q.cell 4
        have z0 := HW11.out.q.frozen 0;have z1 := HW11.out.q.frozen 1;have z2 := HW11.out.q.frozen 2;have z3 := HW11.out.q.frozen 3;have z4 := HW11.out.q.frozen 4
        simp only [List.getElem?_toArray,List.getElem?_cons_zero,List.getElem?_cons_succ] at u0 u1 u2 u3 u4 c0 c1 c2 c3 c4
        go_wp2
        refine bodyPost_ret (v := .tuple #[.agg #[.slice a7 kn.length c7,.slice a9 kn.length c9,.int .i64 (rs + 1),.int .i64 (rr + 1),.bool dn],.int .i64 0]) (by simp [results,Tryz.results83,go_sem,c0,c1,c2,c3,c4]) rfl (run_ret_ok HEN.out ?_ ?_ ?_)
        · exact ((((HW11.out.below.setCell hq1 _).setCell hq1 _).setCell hq1 _).setCell hq1 _).setCell hq1 _
        · exact RdFacts.newer (RdFacts.set_far (RdFacts.set_far (RdFacts.set_far (RdFacts.set_far (RdFacts.set_far HK11.out hn2 _) hn2 _) hn2 _) hn2 _) hn2 _) (fun b hb => by have := hb.2;omega)
        · exact RdFacts.newer (RdFacts.set_far (RdFacts.set_far (RdFacts.set_far (RdFacts.set_far (RdFacts.set_far HN11.out hn2 _) hn2 _) hn2 _) hn2 _) hn2 _) (fun b hb => by have := hb.2;omega)
      · have HEN := Lib.hid (show stepRun st q.1 p ⟨rk,rn,rs,rr,false⟩ = (⟨kn,nw,rs,rr + 1,false⟩,0) from HEO.out.trans (by rw [if_neg hnw]))
        have i6 : ((nw.length : Int) == 0) = false := beq_eq_false_iff_ne.2 (by have := List.length_pos_iff.2 hnw;omega)
        have i7 : ¬ (nw.length : Int) = 0 := by have := List.length_pos_iff.2 hnw;omega
        clear hnw HEO HJA
        go_wp2_with (go_at_call 80;refine (KJ.out _ _ HWX.out.below HNX.out.any).mono ?_;rintro e w7 ⟨⟨v7,rfl,ho7⟩,hb7⟩;obtain ⟨a7,c7,rfl,-,-,-⟩ := id (ho7.read RFact.steady).form;have HW7 := Lib.hid (HWX.out.next hb7);have HC7 := Lib.hid (HCX.out.below hb7 HCX.out.lt);have HN7 := Lib.hid (RdSlice.agree RFact.steady (Below.agree hb7) HNX.out);have HK7 := Lib.hid ((ho7.read RFact.steady).more RFact.steady (S' := fun b => b ≠ C ∧ w.heap.size + 2 ≤ b) (fun b hb _ => by have h1 := HCX.out.lt;have h3 := HWX.out.lt;have h2 := hb.elim id id;constructor <;> omega));have y0 := HC7.out.cell 0;have y1 := HC7.out.cell 1;have y2 := HC7.out.cell 2;have y3 := HC7.out.cell 3;have y4 := HC7.out.cell 4;have y5 := HC7.out.frozen 0;have c0 := HW7.out.q.cell 0;have c1 := HW7.out.q.cell 1;have c2 := HW7.out.q.cell 2;have c3 := HW7.out.q.cell 3;have c4 := HW7.out.q.cell 4;have z0 := HW7.out.q.frozen 0;have z1 := HW7.out.q.frozen 1;have z2 := HW7.out.q.frozen 2;have z3 := HW7.out.q.frozen 3;have z4 := HW7.out.q.frozen 4;simp only [List.getElem?_toArray,List.getElem?_cons_zero,List.getElem?_cons_succ] at y0 y1 y2 y3 y4 c0 c1 c2 c3 c4;clear hb7 ho7 p0 p1)
        refine bodyPost_ret (v := .tuple #[.agg #[.slice a7 kn.length c7,.slice na' nw.length nc',.int .i64 rs,.int .i64 (rr + 1),.bool false],.int .i64 0]) (by simp [results,Tryz.results83,go_sem,c0,c1,c2,c3,c4]) rfl (run_ret_ok HEN.out ?_ ?_ ?_)
        · exact (((((HW7.out.below.setCell hCw _).setCell hq1 _).setCell hq1 _).setCell hq1 _).setCell hq1 _).setCell hq1 _
        all_goals
          have hn1 : ¬ (fun b => b ≠ C ∧ w.heap.size + 2 ≤ b) C := fun h => h.1 rfl
          have hn2 : ¬ (fun b => b ≠ C ∧ w.heap.size + 2 ≤ b) (w.heap.size + 1) := fun h => by have := h.2;omega
        · exact RdFacts.newer (RdFacts.set_far (RdFacts.set_far (RdFacts.set_far (RdFacts.set_far (RdFacts.set_far (RdFacts.set_far HK7.out hn1 _) hn2 _) hn2 _) hn2 _) hn2 _) hn2 _) (fun b hb => by have := hb.2;omega)
        · exact RdFacts.newer (RdFacts.set_far (RdFacts.set_far (RdFacts.set_far (RdFacts.set_far (RdFacts.set_far (RdFacts.set_far HN7.out hn1 _) hn2 _) hn2 _) hn2 _) hn2 _) hn2 _) (fun b hb => by have := hb.2;omega)
end Go.Proofs.YtiiicochdidolaaGreat
