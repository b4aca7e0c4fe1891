/-
  THE WALK OF cororef4.Step.
-/
import Derived.Test.YtbbiapgkcekabaaGreatPr19
import Derived.Test.YtbbiapgkcekabaaGreatPr20
import Derived.Test.YtbbiapgkcekabaaGreatPr21
namespace Go.Proofs.YtbbiapgkcekabaaGreat
open Go.RowKit Go.Maps

theorem join_of (o q : List PFact) : joinF (ofF o) (ofF q) = ofF (o ++ q) := rising_ext (ofF_rising _) (ofF_rising _) fun x => by
  rw [mem_joinF, mem_ofF, mem_ofF, mem_ofF, List.mem_append]
theorem joinE_made {h : PAtom} {ls zs : List Binds} {o : List PFact} (hm : madeE h ls = madeE h zs) : joinF (ofF o) (madeE h ls) = ofF (o ++ fillAll h zs) := by
  rw [hm]; exact join_of o _
theorem join_any (o q : List PFact) : joinF (ofF o) q = ofF (o ++ q) := rising_ext (ofF_rising _) (ofF_rising _) fun x => by
  rw [mem_joinF, mem_ofF, mem_ofF, List.mem_append]
theorem join_less (l m : List PFact) : joinF m (lessF l m) = joinF m l := rising_ext (ofF_rising _) (ofF_rising _) fun x => by
  rw [mem_joinF, mem_joinF, in_lessF]
  exact ⟨fun h => h.elim .inl (fun g => .inr g.1), fun h => h.elim .inl (fun g => by
    by_cases hx : x ∈ m
    · exact .inl hx
    · exact .inr ⟨g, hx⟩)⟩
theorem newP_neg {x : PRule} {K N : List PFact} {i : Nat} {a : PAtom} {b : List PAtom} {u : List PFact} {sm : Bool} (h : a.neg = true) : newP x K N i (a :: b) u sm = newP x K N (i + 1) b u sm := by rw [newP, if_pos h]
theorem newP_bad {x : PRule} {K N : List PFact} {i : Nat} {a : PAtom} {b : List PAtom} {u : List PFact} {sm : Bool} (h : a.neg = false) (he : withP x.body K (i : Int) N = ([], 4)) : newP x K N i (a :: b) u sm = ([], 4) := by
  rw [newP, if_neg (by simp [h]), he, if_pos (by decide)]
theorem newP_on {x : PRule} {K N : List PFact} {i : Nat} {a : PAtom} {b : List PAtom} {u : List PFact} {sm : Bool} (h : a.neg = false) (he : (withP x.body K (i : Int) N).2 = 0) : newP x K N i (a :: b) u sm = newP x K N (i + 1) b (u ++ fillAll x.head (withP x.body K (i : Int) N).1) true := by
  rw [newP, if_neg (by simp [h]), if_neg (by simpa using he)]
theorem newP_end {x : PRule} {K N : List PFact} {i : Nat} {u : List PFact} : newP x K N i [] u true = (u, 0) := by rw [newP, if_pos rfl]
theorem newP_plain {x : PRule} {K N : List PFact} {i : Nat} {u : List PFact} : newP x K N i [] u false = headsP x K := by rw [newP, if_neg (by simp)]

/-- As RunQ, and where the answer's lists lie. -/
def RunU (U : Nat → Prop) (r : PRun × Int) (w : World) (e : Ending) (w' : World) : Prop :=
  Below w.heap.size w w' ∧ ∃ a c b d, e = .returned (.tuple #[.agg #[.slice a r.1.known.length c, .slice b r.1.new.length d, .int .i64 r.1.stratum, .int .i64 r.1.rounds, .bool r.1.done], .int .i64 r.2]) ∧ RdFacts (fun q => U q ∨ w.heap.size ≤ q) w' (.slice a r.1.known.length c) r.1.known ∧ RdFacts (fun q => U q ∨ w.heap.size ≤ q) w' (.slice b r.1.new.length d) r.1.new
theorem runU_err {U : Nat → Prop} {r : PRun × Int} {n : Int} {w w' : World} (h : r = (zeroRun, n)) (hb : Below w.heap.size w w') : RunU U r w (.returned (.tuple #[.agg #[.slice none 0 0, .slice none 0 0, .int .i64 0, .int .i64 0, .bool false], .int .i64 n])) w' := by
  subst h; exact ⟨hb, none, 0, none, 0, rfl, RdFacts.nil, RdFacts.nil⟩
theorem runU_ok {U : Nat → Prop} {r : PRun × Int} {k n : List PFact} {s x : Int} {dn : Bool} {w w' : World} {a b : Option Addr} {c d : Nat} (h : r = (⟨k, n, s, x, dn⟩, 0)) (hb : Below w.heap.size w w') (h1 : RdFacts (fun q => U q ∨ w.heap.size ≤ q) w' (.slice a k.length c) k) (h2 : RdFacts (fun q => U q ∨ w.heap.size ≤ q) w' (.slice b n.length d) n) :
    RunU U r w (.returned (.tuple #[.agg #[.slice a k.length c, .slice b n.length d, .int .i64 s, .int .i64 x, .bool dn], .int .i64 0])) w' := by
  subst h; exact ⟨hb, a, c, b, d, rfl, h1, h2⟩
/-- Not the block that the answer is laid into. -/
def Off (U : Nat → Prop) (w : World) : Nat → Prop := fun b => (U b ∨ w.heap.size ≤ b) ∧ b ≠ w.heap.size + 1
theorem RdFacts.laidQ {S : Nat → Prop} {w : World} {v : Value} {l : List PFact} (h : RdFacts S w v l) (o : Obj) : RdFacts S (w.alloc o) v l := RdSlice.agree RFact.steady ((Agree.refl _ _).alloc _) h
theorem bothOff {U : Nat → Prop} (v0 v : Value) (l0 l : List PFact) (w W : World) (hW : w.heap.size + 2 ≤ W.heap.size) (h0 : RdFacts (Off U w) W v0 l0) (h : RdFacts (Off U w) W v l) (n0 : l0.length ≤ 536870912) (n1 : l.length ≤ 536870912) (n3 : ∀ x ∈ l0, x.args.length ≤ 1073741824) (n2 : ∀ x ∈ l, x.args.length ≤ 1073741824) :
    Calls Tryz.prog 59 #[v0, v] W fun e w' => (∃ v', e = .returned v' ∧ RdFacts (Off U w) w' v' (joinF l0 l)) ∧ Below W.heap.size W w' :=
  (bothRefU (U := Off U w) v0 v l0 l W h0 h n0 n1 n3 n2).mono fun e w' ⟨⟨v', h1, h2⟩, h3⟩ => ⟨⟨v', h1, h2.more RFact.steady (fun b hb _ => hb.elim id (fun g => ⟨.inr (by omega), by omega⟩))⟩, h3⟩
/-- Neither the block C nor the answer's. -/
def OffC (U : Nat → Prop) (w : World) (C : Nat) : Nat → Prop := fun b => b ≠ C ∧ (U b ∨ w.heap.size ≤ b) ∧ b ≠ w.heap.size + 1
theorem offC_of {U : Nat → Prop} {w : World} {C b : Nat} (h1 : b < C) (h2 : Off U w b) : OffC U w C b := ⟨by omega, h2⟩
/-- The new run lies in a block of its own. -/
def StepCutR (U : Nat → Prop) (w wo : World) (kv nv : Value) (rs rr : Int) (kn nw : List PFact) (t : Value) (wx : World) : Prop :=
  ∃ C a c b d, t = .pointer (some ⟨C, 0, none⟩) ∧ w.heap.size + 2 ≤ C ∧ wo.heap.size ≤ C ∧ SpW w wx kv nv rs rr false ∧ Below wo.heap.size wo wx ∧
    Blk wx C 47 #[.slice a kn.length c, .slice b nw.length d, .int .i64 rs, .int .i64 (rr + 1), .bool false] ∧ RdFacts (OffC U w C) wx (.slice a kn.length c) kn ∧ RdFacts (OffC U w C) wx (.slice b nw.length d) nw
theorem stepCutR_mk {U : Nat → Prop} {w wo W : World} {kv nv : Value} {rs rr : Int} {kn nw : List PFact} {C c d : Nat} {a b : Option Addr} (hC : wo.heap.size ≤ C) (ho : w.heap.size + 2 ≤ wo.heap.size) (hW : SpW w W kv nv rs rr false) (hB : Below wo.heap.size wo W)
    (hc : Blk W C 47 #[.slice none 0 0, .slice none 0 0, .int .i64 0, .int .i64 0, .bool false]) (hk : RdFacts (OffC U w C) W (.slice a kn.length c) kn) (hn : RdFacts (OffC U w C) W (.slice b nw.length d) nw) :
    StepCutR U w wo kv nv rs rr kn nw (.pointer (some ⟨C, 0, none⟩)) (((((W.setCell ⟨C, 0, none⟩ (.slice a kn.length c)).setCell ⟨C, 1, none⟩ (.slice b nw.length d)).setCell ⟨C, 2, none⟩ (.int .i64 rs)).setCell ⟨C, 3, none⟩ (.int .i64 (rr + 1))).setCell ⟨C, 4, none⟩ (.bool false)) := by
  have hx : ¬ OffC U w C C := fun h => h.1 rfl
  have f1 : w.heap.size ≠ C := by omega
  have f2 : w.heap.size + 1 ≠ C := by omega
  have f3 : w.heap.size ≤ C := by omega
  refine ⟨C, a, c, b, d, rfl, by omega, hC, ⟨?_, ?_, ?_⟩, ?_, ?_, ?_, ?_⟩
  · exact ((((hW.below.setCell f3 _).setCell f3 _).setCell f3 _).setCell f3 _).setCell f3 _
  · exact ((((hW.rb.far (p := ⟨C, 0, none⟩) f1 _).far (p := ⟨C, 1, none⟩) f1 _).far (p := ⟨C, 2, none⟩) f1 _).far (p := ⟨C, 3, none⟩) f1 _).far (p := ⟨C, 4, none⟩) f1 _
  · exact ((((hW.q.far (p := ⟨C, 0, none⟩) f2 _).far (p := ⟨C, 1, none⟩) f2 _).far (p := ⟨C, 2, none⟩) f2 _).far (p := ⟨C, 3, none⟩) f2 _).far (p := ⟨C, 4, none⟩) f2 _
  · exact ((((hB.setCell hC _).setCell hC _).setCell hC _).setCell hC _).setCell hC _
  · exact ((((hc.set_ 0 (.slice a kn.length c)).set_ 1 (.slice b nw.length d)).set_ 2 (.int .i64 rs)).set_ 3 (.int .i64 (rr + 1))).set_ 4 (.bool false)
  · exact RdFacts.set_far (RdFacts.set_far (RdFacts.set_far (RdFacts.set_far (RdFacts.set_far hk hx _) hx _) hx _) hx _) hx _
  · exact RdFacts.set_far (RdFacts.set_far (RdFacts.set_far (RdFacts.set_far (RdFacts.set_far hn hx _) hx _) hx _) hx _) hx _
theorem stepCutR_new {U : Nat → Prop} {w wo W : World} {kv nv : Value} {rs rr : Int} {kn nw : List PFact} {c d : Nat} {a b : Option Addr} (ho : w.heap.size + 2 ≤ wo.heap.size) (hW : SpW w W kv nv rs rr false) (hB : Below wo.heap.size wo W)
    (hk : RdFacts (Off U w) W (.slice a kn.length c) kn) (hn : RdFacts (Off U w) W (.slice b nw.length d) nw) :
    StepCutR U w wo kv nv rs rr kn nw (.pointer (some ⟨W.heap.size, 0, none⟩)) (W.alloc (.cells #[.slice a kn.length c, .slice b nw.length d, .int .i64 rs, .int .i64 (rr + 1), .bool false] 47)) :=
  ⟨W.heap.size, a, c, b, d, rfl, Nat.le_trans ho hB.size, hB.size, hW.alloc _, hB.alloc hB.size _, Blk.new _ _ _,
    RdFacts.laidQ (hk.more RFact.steady (fun b hb hl => ⟨by omega, hb⟩)) _, RdFacts.laidQ (hn.more RFact.steady (fun b hb hl => ⟨by omega, hb⟩)) _⟩
/-- cororef1.Both and cororef1.Minus: where the answer does not lie. -/
theorem bothC {U : Nat → Prop} (v0 v : Value) (l0 l : List PFact) (w W : World) (C : Nat) (hC : C < W.heap.size) (hW : w.heap.size + 2 ≤ W.heap.size) (h0 : RdFacts (OffC U w C) W v0 l0) (h : RdFacts (OffC U w C) W v l) (n0 : l0.length ≤ 536870912) (n1 : l.length ≤ 536870912) (n3 : ∀ x ∈ l0, x.args.length ≤ 1073741824) (n2 : ∀ x ∈ l, x.args.length ≤ 1073741824) :
    Calls Tryz.prog 59 #[v0, v] W fun e w' => (∃ v', e = .returned v' ∧ RdFacts (OffC U w C) w' v' (joinF l0 l)) ∧ Below W.heap.size W w' :=
  (bothRefU (U := OffC U w C) v0 v l0 l W h0 h n0 n1 n3 n2).mono fun e w' ⟨⟨v', h1, h2⟩, h3⟩ => ⟨⟨v', h1, h2.more RFact.steady (fun b hb _ => hb.elim id (fun g => ⟨by omega, .inr (by omega), by omega⟩))⟩, h3⟩
theorem minusC {U T : Nat → Prop} (v0 v : Value) (l0 l : List PFact) (w W : World) (C : Nat) (hC : C < W.heap.size) (hW : w.heap.size + 2 ≤ W.heap.size) (h0 : RdFacts (OffC U w C) W v0 l0) (h : RdFacts T W v l) (n0 : l0.length ≤ 1073741824) (n3 : ∀ x ∈ l0, x.args.length ≤ 1073741824) (n1 : l.length ≤ 1073741824) (n2 : ∀ x ∈ l, x.args.length ≤ 1073741824) :
    Calls Tryz.prog 64 #[v0, v] W fun e w' => (∃ v', e = .returned v' ∧ RdFacts (OffC U w C) w' v' (lessF l0 l)) ∧ Below W.heap.size W w' :=
  (minusRefU v0 v l0 l W h0 h n0 n3 n1 n2).mono fun e w' ⟨⟨v', h1, h2⟩, h3⟩ => ⟨⟨v', h1, (h2.read RFact.steady).more RFact.steady (fun b hb _ => hb.elim (fun g => g.1) (fun g => ⟨by omega, .inr (by omega), by omega⟩))⟩, h3⟩
theorem minusOff {U T : Nat → Prop} (v0 v : Value) (l0 l : List PFact) (w W : World) (hW : w.heap.size + 2 ≤ W.heap.size) (h0 : RdFacts (Off U w) W v0 l0) (h : RdFacts T W v l) (n0 : l0.length ≤ 1073741824) (n3 : ∀ x ∈ l0, x.args.length ≤ 1073741824) (n1 : l.length ≤ 1073741824) (n2 : ∀ x ∈ l, x.args.length ≤ 1073741824) :
    Calls Tryz.prog 64 #[v0, v] W fun e w' => (∃ v', e = .returned v' ∧ RdFacts (Off U w) w' v' (lessF l0 l)) ∧ Below W.heap.size W w' :=
  (minusRefU v0 v l0 l W h0 h n0 n3 n1 n2).mono fun e w' ⟨⟨v', h1, h2⟩, h3⟩ => ⟨⟨v', h1, (h2.read RFact.steady).more RFact.steady (fun b hb _ => hb.elim (fun g => g.1) (fun g => ⟨.inr (by omega), by omega⟩))⟩, h3⟩
attribute [local go_sem ↓] Go.wp_at_zero Go.wp_at_succ
set_option maxRecDepth 100000 in
set_option maxHeartbeats 16000000 in
theorem stepRefU {S U : Nat → Prop} (p : List PRule) (v : Value) (st : List Int) (q : Int × Int) (r : PRun) (kv nv : Value) (w : World) (hS : StrataIs p st q) (h : RdRules S w v p) (hr : RunRd w r kv nv) (hk : RdFacts U w kv r.known) (hn : RdFacts U w nv r.new)
    (n1 : p.length ≤ 1048576) (n2 : ∀ r ∈ p, RuleSmall r) (n3 : ∀ r ∈ p, NameSmall r) (ns : RunSmall r) (m1 : FactsSmall r.known) (m2 : FactsSmall r.new) :
    Calls Tryz.prog 33 #[v, .agg #[kv, nv, .int .i64 r.stratum, .int .i64 r.rounds, .bool r.done]] w (RunU U (stepRun st q.1 p r) w) := by
  obtain ⟨rk, rn, rs, rr, rd⟩ := r
  obtain ⟨a, c, rfl, -, -, -⟩ := id h.form
  obtain ⟨ka, kc, rfl, -, -, -⟩ := id hr.known.form
  obtain ⟨na, nc, rfl, -, -, -⟩ := id hr.new.form
  obtain ⟨W0, hW0⟩ : ∃ W0 : World, (w.alloc (.cells #[.slice ka rk.length kc, .slice na rn.length nc, .int .i64 rs, .int .i64 rr, .bool rd] 47)).alloc (.cells #[.slice none 0 0, .slice none 0 0, .int .i64 0, .int .i64 0, .bool false] 47) = W0 := ⟨_, rfl⟩
  have hw0 : SpW w W0 (.slice ka rk.length kc) (.slice na rn.length nc) rs rr rd := by
    subst hW0
    exact ⟨((Below.refl _ _).alloc (Nat.le_refl _) _).alloc (by simp) _, (Blk.new w _ _).alloc _, heap_new_at (by simp)⟩
  have HW0 := Lib.hid hw0
  have H := Lib.hid h
  have HR := Lib.hid hr
  have HRK := Lib.hid hk
  have HRN := Lib.hid hn
  have N2 := Lib.hid n2
  have N3 := Lib.hid n3
  have NS := Lib.hid ns
  have HS := Lib.hid hS
  have M1' := Lib.hid m1
  have M2' := Lib.hid m2
  have KB := Lib.hid (wrongRunRef p _ st q ⟨rk, rn, rs, rr, rd⟩ (.slice ka rk.length kc) (.slice na rn.length nc) W0 hS (h.up hw0.below) (hr.up hw0.below) n1 n2 n3 ns m1 m2)
  clear h hr hk hn n2 n3 ns hw0 hS m1 m2
  have r0 := HW0.out.rb.cell 0; have r1 := HW0.out.rb.cell 1; have r2 := HW0.out.rb.cell 2; have r3 := HW0.out.rb.cell 3; have r4 := HW0.out.rb.cell 4
  simp only [List.getElem?_toArray, List.getElem?_cons_zero, List.getElem?_cons_succ] at r0 r1 r2 r3 r4
  have H0 := Lib.hid (runBad_zero (st := st) (q := q.1) (p := p) (r := ⟨rk, rn, rs, rr, rd⟩))
  have E1 := Lib.hid (step_bad (st := st) (q := q.1) (p := p) (r := ⟨rk, rn, rs, rr, rd⟩))
  have E2 := Lib.hid (step_good (st := st) (q := q.1) (p := p) (r := ⟨rk, rn, rs, rr, rd⟩))
  have hq1 : w.heap.size ≤ w.heap.size + 1 := Nat.le_succ _
  generalize runBad st q.1 p ⟨rk, rn, rs, rr, rd⟩ = x at *
  dsimp only at *
  by_cases hx : x = 0
  case neg =>
    have g1 : (x != 0) = true := by simpa using hx
    have HE := Lib.hid (E1.out hx)
    clear hx E1 E2 H0
    go_enter Tryz.func33, Tryz.ntmps33
    go_wp2_with (go_at_call 31; refine (KB.out).mono ?_; rintro e w1 ⟨rfl, hb1⟩; have HW1 := Lib.hid (HW0.out.next hb1); have c0 := HW1.out.q.cell 0; have c1 := HW1.out.q.cell 1; have c2 := HW1.out.q.cell 2; have c3 := HW1.out.q.cell 3; have c4 := HW1.out.q.cell 4; have z0 := HW1.out.q.frozen 0; have z1 := HW1.out.q.frozen 1; have z2 := HW1.out.q.frozen 2; have z3 := HW1.out.q.frozen 3; have z4 := HW1.out.q.frozen 4; simp only [List.getElem?_toArray, List.getElem?_cons_zero, List.getElem?_cons_succ] at c0 c1 c2 c3 c4; clear hb1 r0 r1 r2 r3 r4)
    refine bodyPost_ret (v := .tuple #[.agg #[.slice none 0 0, .slice none 0 0, .int .i64 0, .int .i64 0, .bool false], .int .i64 x]) (by simp [results, Tryz.results33, go_sem, c0, c1, c2, c3, c4]) rfl (runU_err HE.out ?_)
    exact ((((HW1.out.below.setCell hq1 _).setCell hq1 _).setCell hq1 _).setCell hq1 _).setCell hq1 _
  subst hx
  obtain ⟨hq, hok⟩ := H0.out.1 rfl
  have HOK := Lib.hid hok
  have HE := Lib.hid (E2.out rfl)
  clear E1 E2 H0 hok
  obtain ⟨hsl, h16, h5, hz16, hc0, hc17⟩ := strata_bd HS.out hq
  have HRU := Lib.hid (strata_zero HS.out hq).1
  have HZ := Lib.hid hz16
  have H5 := Lib.hid h5
  have HSL := Lib.hid hsl
  have HQ := Lib.hid hq
  clear h5 hz16 hsl hq
  have hkl := HOK.out.known.len
  have hnl := HOK.out.new.len
  cases rd
  case true =>
    have HEE := Lib.hid (HE.out.trans (good_done rfl))
    clear HE
    go_enter Tryz.func33, Tryz.ntmps33
    go_wp2_with (go_at_call 31; refine (KB.out).mono ?_; rintro e w1 ⟨rfl, hb1⟩; have HW1 := Lib.hid (HW0.out.next hb1); have s0 := HW1.out.rb.cell 0; have s1 := HW1.out.rb.cell 1; have s2 := HW1.out.rb.cell 2; have s3 := HW1.out.rb.cell 3; have s4 := HW1.out.rb.cell 4; have c0 := HW1.out.q.cell 0; have c1 := HW1.out.q.cell 1; have c2 := HW1.out.q.cell 2; have c3 := HW1.out.q.cell 3; have c4 := HW1.out.q.cell 4; have z0 := HW1.out.q.frozen 0; have z1 := HW1.out.q.frozen 1; have z2 := HW1.out.q.frozen 2; have z3 := HW1.out.q.frozen 3; have z4 := HW1.out.q.frozen 4; simp only [List.getElem?_toArray, List.getElem?_cons_zero, List.getElem?_cons_succ] at s0 s1 s2 s3 s4 c0 c1 c2 c3 c4; clear hb1 r0 r1 r2 r3 r4)
    refine bodyPost_ret (v := .tuple #[.agg #[.slice ka rk.length kc, .slice na rn.length nc, .int .i64 rs, .int .i64 rr, .bool true], .int .i64 0]) (by simp [results, Tryz.results33, go_sem, c0, c1, c2, c3, c4]) rfl (runU_ok HEE.out ?_ ?_ ?_)
    · exact ((((HW1.out.below.setCell hq1 _).setCell hq1 _).setCell hq1 _).setCell hq1 _).setCell hq1 _
    · exact (RdSlice.agree RFact.steady (Below.agree (((((HW1.out.below.setCell hq1 _).setCell hq1 _).setCell hq1 _).setCell hq1 _).setCell hq1 _)) HRK.out).more RFact.steady (fun _ hb _ => .inl hb)
    · exact (RdSlice.agree RFact.steady (Below.agree (((((HW1.out.below.setCell hq1 _).setCell hq1 _).setCell hq1 _).setCell hq1 _).setCell hq1 _)) HRN.out).more RFact.steady (fun _ hb _ => .inl hb)
  by_cases hth : rr = 1000
  · have HEE := Lib.hid (HE.out.trans (good_thousand rfl hth))
    clear HE
    subst hth
    go_enter Tryz.func33, Tryz.ntmps33
    go_wp2_with (go_at_call 31; refine (KB.out).mono ?_; rintro e w1 ⟨rfl, hb1⟩; have HW1 := Lib.hid (HW0.out.next hb1); have s3 := HW1.out.rb.cell 3; have s4 := HW1.out.rb.cell 4; have c0 := HW1.out.q.cell 0; have c1 := HW1.out.q.cell 1; have c2 := HW1.out.q.cell 2; have c3 := HW1.out.q.cell 3; have c4 := HW1.out.q.cell 4; have z0 := HW1.out.q.frozen 0; have z1 := HW1.out.q.frozen 1; have z2 := HW1.out.q.frozen 2; have z3 := HW1.out.q.frozen 3; have z4 := HW1.out.q.frozen 4; simp only [List.getElem?_toArray, List.getElem?_cons_zero, List.getElem?_cons_succ] at s3 s4 c0 c1 c2 c3 c4; clear hb1 r0 r1 r2 r3 r4)
    refine bodyPost_ret (v := .tuple #[.agg #[.slice none 0 0, .slice none 0 0, .int .i64 0, .int .i64 0, .bool false], .int .i64 5]) (by simp [results, Tryz.results33, go_sem, c0, c1, c2, c3, c4]) rfl (runU_err HEE.out ?_)
    exact ((((HW1.out.below.setCell hq1 _).setCell hq1 _).setCell hq1 _).setCell hq1 _).setCell hq1 _
  have hrr1 := HOK.out.r1
  dsimp only at hrr1
  have g5 : ¬ (1000 : Int) ≤ rr := by omega
  have M1 := Lib.hid (fun h3 => HE.out.trans (good_err (st := st) (p := p) (r := ⟨rk, rn, rs, rr, false⟩) rfl hth h3))
  have M2 := Lib.hid (fun m h3 => HE.out.trans (good_made (st := st) (p := p) (r := ⟨rk, rn, rs, rr, false⟩) (m := m) rfl hth h3))
  dsimp only at M1 M2
  have KS := Lib.hid (fun W (hW : Below w.heap.size w W) => strataRefT HS.out (H.out.up hW) n1 N2.out N3.out)
  rw [HQ.out] at KS
  generalize q.2 = q2 at *
  clear hth HE
  go_enter Tryz.func33, Tryz.ntmps33
  go_wp2_with (first
    | (go_at_call 20; have hh := HW1.out; clear hh; refine (KS.out _ HW1.out.below).mono ?_; rintro e w2 ⟨hb2, a2, c2, rfl, hr2⟩; have HW2 := Lib.hid ((HW1.out.next hb2).alloc (.cells #[.int .i64 0, .int .i64 q2] 27)); have HI2 := Lib.hid (hr2.up ((Below.refl _ _).alloc (Nat.le_refl _) (.cells #[.int .i64 0, .int .i64 q2] 27))); clear hb2 hr2)
    | (go_at_call 31; refine (KB.out).mono ?_; rintro e w1 ⟨rfl, hb1⟩; have HW1 := Lib.hid (HW0.out.next hb1); have s3 := HW1.out.rb.cell 3; have s4 := HW1.out.rb.cell 4; simp only [List.getElem?_toArray, List.getElem?_cons_zero, List.getElem?_cons_succ] at s3 s4; clear hb1 r0 r1 r2 r3 r4))
  clear s3 s4 HW0 KB KS hW0 HW1
  obtain ⟨wo, hwo⟩ : ∃ wo : World, w2.alloc (.cells #[.int .i64 0, .int .i64 q2] 27) = wo := ⟨_, rfl⟩
  rw [hwo] at HW2 HI2 ⊢
  clear hwo
  have hwl := HW2.out.lt
  have HBO := Lib.hid (Below.refl wo.heap.size wo)
  have HD0 := Lib.hid (show RdFacts (Off U w) wo (.slice none 0 0) (ofF []) from RdFacts.nil)
  go_loopw [41, 9] (fun i v wr => ∃ (k : Nat) (o : List PFact) (ma : Option Addr) (mc : Nat), k ≤ p.length ∧ i = .int .i64 k ∧ v = .slice ma (ofF o).length mc ∧ o.length ≤ k * 120000 ∧ Hid (∀ y ∈ o, y.args.length ≤ 1048576) ∧ Hid (RdFacts (Off U w) wr (.slice ma (ofF o).length mc) (ofF o)) ∧ Hid (Below wo.heap.size wo wr) ∧ Hid (makeP rs rk rn (p.zip st) [] = makeP rs rk rn ((p.zip st).drop k) o)) (fun i _ _ => p.length - (intOf i).toNat)
  case atStart => exact ⟨0, [], none, 0, Nat.zero_le _, rfl, rfl, Nat.le_refl _, Lib.hid (by simp), HD0, HBO, Lib.hid rfl⟩
  case round =>
    clear HBO HD0
    obtain ⟨k, o, ma, mc, hk, rfl, rfl, hol, HOA, HO, HB, HM⟩ := hrel
    have HWW := Lib.hid (HW2.out.next HB.out)
    have hbs := HB.out.size
    by_cases hlt : k < p.length
    · obtain ⟨x, hx⟩ : ∃ x, p[k]? = some x := ⟨_, List.getElem?_eq_getElem hlt⟩
      obtain ⟨t, hst⟩ : ∃ s, st[k]? = some s := ⟨_, List.getElem?_eq_getElem (by rw [HSL.out]; omega)⟩
      have hmem := List.mem_of_getElem? hx
      obtain ⟨b1, o1, ta, tc, ba, bc, rfl, hra⟩ := H.out.pick hx
      have HRA := Lib.hid hra
      obtain ⟨b2, o2, rfl, -, hb2, e0⟩ := RdInts.at HI2.out hst
      have f0 := (cell_below HB.out hb2 _).trans e0
      have hb2' : b2 < wr.heap.size := Nat.lt_of_lt_of_le hb2 hbs
      have HM1 := Lib.hid (show makeP rs rk rn (p.zip st) [] = makeP rs rk rn ((x, t) :: (p.zip st).drop (k + 1)) o by rw [HM.out, at_drop (zip_at hx hst)])
      have i3 : (k : Int) < (st.length : Int) := by rw [HSL.out]; omega
      have i4 : (0 : Int) ≤ (k : Int) := by omega
      obtain ⟨-, d0, d1, d2, d3, -, -⟩ := HRA.out.up HWW.out.below
      have HWR := Lib.hid (HWW.out.alloc (.cells #[.bool x.head.neg, .string x.head.name, .slice ta x.head.terms.length tc, .slice ba x.body.length bc] 43))
      have HBR := Lib.hid (HB.out.alloc hbs (.cells #[.bool x.head.neg, .string x.head.name, .slice ta x.head.terms.length tc, .slice ba x.body.length bc] 43))
      have HKR := Lib.hid (Blk.new wr 43 #[.bool x.head.neg, .string x.head.name, .slice ta x.head.terms.length tc, .slice ba x.body.length bc])
      have HOR := Lib.hid (RdFacts.laidQ HO.out (.cells #[.bool x.head.neg, .string x.head.name, .slice ta x.head.terms.length tc, .slice ba x.body.length bc] 43))
      have w2s := HWR.out.rb.cell 2
      simp only [List.getElem?_toArray, List.getElem?_cons_zero, List.getElem?_cons_succ] at w2s
      clear hx hst hra HM e0
      by_cases hts : t = rs
      case neg =>
        have g1 : (t != rs) = true := by simpa using hts
        have HM2 := Lib.hid (HM1.out.trans (make_skip hts))
        have hol2 := mul_more hol
        clear hts HM1
        go_wp2
        go_quiet (fail)
        go_wp2
        go_roundw
        case rel => exact ⟨k + 1, o, _, _, by omega, by go_num, rfl, hol2, HOA, Lib.hid (RdFacts.hold HOR.out (below_drewN (Below.refl _ _) _)), Lib.hid (below_drewN HBR.out _), HM2⟩
        case measure => simp [intOf]; omega
      have g1 : (t != rs) = false := by simpa using hts
      have hbad := (ruleBad_zero (HRU.out x hmem)).2.2.1
      have hb5 := H5.out x hmem
      have HSX := Lib.hid (N2.out x hmem)
      have hk0 : (setF rk).1 = 0 := by have h := HOK.out.known.set; exact congrArg Prod.fst h
      have hn0 : (setF rn).1 = 0 := by have h := HOK.out.new.set; exact congrArg Prod.fst h
      have KE := Lib.hid (fun W (hW : Below w.heap.size w W) (j : Int) => envsRef x.body (.slice ba x.body.length bc) rk (.slice ka rk.length kc) j rn (.slice na rn.length nc) W (HRA.out.up hW).b (RdFacts.up HR.out.known hW) (RdFacts.up HR.out.new hW) hbad HSX.out.b2 NS.out.k1 (fun y hy => ⟨(M1'.out y hy).1, (M1'.out y hy).2.2⟩) NS.out.n1 (fun y hy => ⟨(M2'.out y hy).1, (M2'.out y hy).2.2⟩))
      have KE0 := Lib.hid (fun W (hW : Below w.heap.size w W) => envsRef x.body (.slice ba x.body.length bc) rk (.slice ka rk.length kc) (-1) [] (.slice none 0 0) W (HRA.out.up hW).b (RdFacts.up HR.out.known hW) (RdFacts.nil (S := fun _ => True)) hbad HSX.out.b2 NS.out.k1 (fun y hy => ⟨(M1'.out y hy).1, (M1'.out y hy).2.2⟩) (by simp) (by simp))
      have KM := Lib.hid (fun W ev (ls : List Binds) (hW : Below w.heap.size w W) (he : RdEnvs 20 (fun _ => True) W ev ls) hl => madeRef x (.slice ta x.head.terms.length tc) (.slice ba x.body.length bc) ev ls 20 W (HRA.out.up hW).t he HSX.out.h1 HSX.out.h2 hl)
      have P1 := Lib.hid (fun he => HM1.out.trans (make_err hts he))
      have P2 := Lib.hid (fun he => HM1.out.trans (make_next hts he))
      have hxh := HSX.out.h1
      clear hts HM1 hmem
      go_wp2
      go_quiet (fail)
      go_wp2
      obtain ⟨W1, hW1⟩ : ∃ W1 : World, (wr.alloc (.cells #[.bool x.head.neg, .string x.head.name, .slice ta x.head.terms.length tc, .slice ba x.body.length bc] 43)).drewN nq = W1 := ⟨_, rfl⟩
      have HW1 : Hid (SpW w W1 (.slice ka rk.length kc) (.slice na rn.length nc) rs rr false) := Lib.hid (by rw [← hW1]; exact HWR.out.drewN _)
      have HB1 : Hid (Below wo.heap.size wo W1) := Lib.hid (by rw [← hW1]; exact below_drewN HBR.out _)
      have HK1 : Hid (Blk W1 wr.heap.size 43 #[.bool x.head.neg, .string x.head.name, .slice ta x.head.terms.length tc, .slice ba x.body.length bc]) := Lib.hid (by rw [← hW1]; exact HKR.out.drewN _)
      have HO1 : Hid (RdFacts (Off U w) W1 (.slice ma (ofF (o ++ [])).length mc) (ofF (o ++ []))) := Lib.hid (by rw [← hW1, List.append_nil]; exact RdFacts.hold HOR.out (below_drewN (Below.refl _ _) _))
      have HV1 := Lib.hid (show Value.slice ma (ofF o).length mc = .slice ma (ofF (o ++ [])).length mc by rw [List.append_nil])
      try rw [hW1]
      clear hW1 HWR HBR HKR HOR HWW HB HO
      have hk1 := HK1.out.lt
      have hs1 := Below.size HB1.out
      have HT1 := Lib.hid (Below.refl W1.heap.size W1)
      have HNP := Lib.hid (show newHeads x rk rn = newP x rk rn 0 (x.body.drop 0) [] (decide (0 < 0)) from rfl)
      go_loopw [56, 12, 9] (fun i cv v wx => ∃ (j cso : Nat) (u : List PFact) (xa : Option Addr) (xc : Nat), j ≤ x.body.length ∧ i = .int .i64 j ∧ cv = .int .i64 cso ∧ cso ≤ j ∧ v = .slice xa (ofF (o ++ u)).length xc ∧ u.length ≤ j * 20000 ∧ Hid (∀ y ∈ u, y.args.length ≤ 1048576) ∧ (cso = 0 → u = []) ∧ Hid (RdFacts (Off U w) wx (.slice xa (ofF (o ++ u)).length xc) (ofF (o ++ u))) ∧ Hid (Below W1.heap.size W1 wx) ∧ Hid (newHeads x rk rn = newP x rk rn j (x.body.drop j) u (decide (0 < cso)))) (fun i _ _ _ => x.body.length - (intOf i).toNat)
      case atStart => exact ⟨0, 0, [], _, _, Nat.zero_le _, rfl, rfl, Nat.le_refl _, HV1.out, Nat.le_refl _, Lib.hid (by simp), fun _ => rfl, HO1, HT1, HNP⟩
      case round =>
        clear HO1 HT1 HNP HV1
        obtain ⟨j, cso, u, xa, xc, hj, rfl, rfl, hcj, rfl, hul, HUA, hu0, HO, HT, HNP⟩ := hrel
        have HWt := Lib.hid (HW1.out.next HT.out)
        have HBt := Lib.hid (HB1.out.trans (HT.out.mono hs1))
        have hkt := HK1.out.below HT.out hk1
        have hst := Below.size HT.out
        have v2 := hkt.cell 0; have v3 := hkt.cell 3
        have v0 := HWt.out.rb.cell 0; have v1 := HWt.out.rb.cell 1
        simp only [List.getElem?_toArray, List.getElem?_cons_zero, List.getElem?_cons_succ] at v0 v1 v2 v3
        have hltk := hkt.lt
        have hlt0 := HWt.out.lt
        have hlt1 : w.heap.size < wr.heap.size := by omega
        have HKT := Lib.hid hkt
        clear hkt
        have hmax : (ofF (o ++ u)).length ≤ 16 * 120000 + 5 * 20000 := by
          have h1 := ofF_length (o ++ u)
          rw [List.length_append] at h1
          have h2 : o.length ≤ 16 * 120000 := Nat.le_trans hol (Nat.mul_le_mul_right _ (by omega))
          have h3 : u.length ≤ 5 * 20000 := Nat.le_trans hul (Nat.mul_le_mul_right _ (by omega))
          omega
        have HMA := Lib.hid (show ∀ y ∈ ofF (o ++ u), y.args.length ≤ 1048576 from fun y hy => by
          rcases List.mem_append.1 ((mem_ofF y _).1 hy) with h | h
          · exact HOA.out y h
          · exact HUA.out y h)
        by_cases hlj : j < x.body.length
        · obtain ⟨y, hy⟩ : ∃ y, x.body[j]? = some y := ⟨_, List.getElem?_eq_getElem hlj⟩
          obtain ⟨b4, o4, yv, rfl, -, hb4, e0, e1, e2, hyv⟩ := RdAtoms.at (HRA.out.up HWt.out.below).b hy
          obtain ⟨ya, yc, rfl, -, -, -⟩ := id hyv.form
          have HNJ := Lib.hid (show newHeads x rk rn = newP x rk rn j (y :: x.body.drop (j + 1)) u (decide (0 < cso)) by rw [HNP.out, drop_cons hy])
          have HT3 := Lib.hid (HT.out.alloc hst (.cells #[.bool y.neg, .string y.name, .slice ya y.terms.length yc] 40))
          have HO3 := Lib.hid (RdFacts.laidQ HO.out (.cells #[.bool y.neg, .string y.name, .slice ya y.terms.length yc] 40))
          have HW3 := Lib.hid (HWt.out.alloc (.cells #[.bool y.neg, .string y.name, .slice ya y.terms.length yc] 40))
          have hws : IntKind.i64.wrap ((cso : Int) + 1) = (cso : Int) + 1 := by rw [IntKind.wrap_i64]; omega
          clear hy hyv HNP
          cases hn : y.neg
          case true =>
            rw [hn] at e0 HT3 HO3 HW3
            have HNP2 := Lib.hid (HNJ.out.trans (newP_neg hn))
            have hul2 := mul_more hul
            clear hn HNJ
            go_wp2
            go_roundw
            case rel => exact ⟨j + 1, cso, u, _, _, by omega, by go_num, rfl, by omega, rfl, hul2, HUA, hu0, HO3, HT3, HNP2⟩
            case measure => simp [intOf]; omega
          case false =>
            rw [hn] at e0 HT3 HO3 HW3
            rcases envs_with (at' := (j : Int)) hbad hk0 hn0 with ⟨h1, h2⟩ | ⟨ls, h1, h2, h3⟩
            · have HEB := Lib.hid (HNJ.out.trans (newP_bad hn h2))
              have HP := Lib.hid (P1.out (by rw [HEB.out]; decide))
              have HER := Lib.hid (M1.out (by rw [HP.out, HEB.out]; decide))
              rw [HP.out, HEB.out] at HER
              have KN := KE.out _ HW3.out.below (j : Int)
              rw [h1] at KN
              have KX := Lib.hid (KN.mono (R' := fun e w' => e = .returned (.tuple #[.slice none 0 0, .int .i64 4]) ∧ Below (wr.alloc (.cells #[.bool false, .string y.name, .slice ya y.terms.length yc] 40)).heap.size (wr.alloc (.cells #[.bool false, .string y.name, .slice ya y.terms.length yc] 40)) w') fun e w' ⟨g1, g2⟩ => ⟨g2, g1⟩)
              clear hn HNJ h1 h2 KN HP HEB M1 M2 P1 P2
              go_wp2_with (go_at_call 60; refine (KX.out).mono ?_; rintro e w5 ⟨rfl, hb5⟩; have HW5 := Lib.hid (HW3.out.next hb5); have c0 := HW5.out.q.cell 0; have c1 := HW5.out.q.cell 1; have c2 := HW5.out.q.cell 2; have c3 := HW5.out.q.cell 3; have c4 := HW5.out.q.cell 4; have z0 := HW5.out.q.frozen 0; have z1 := HW5.out.q.frozen 1; have z2 := HW5.out.q.frozen 2; have z3 := HW5.out.q.frozen 3; have z4 := HW5.out.q.frozen 4; simp only [List.getElem?_toArray, List.getElem?_cons_zero, List.getElem?_cons_succ] at c0 c1 c2 c3 c4; clear hb5)
              refine bodyPost_ret (v := .tuple #[.agg #[.slice none 0 0, .slice none 0 0, .int .i64 0, .int .i64 0, .bool false], .int .i64 4]) (by simp [results, Tryz.results33, go_sem, c0, c1, c2, c3, c4]) rfl (runU_err HER.out ?_)
              exact ((((HW5.out.below.setCell hq1 _).setCell hq1 _).setCell hq1 _).setCell hq1 _).setCell hq1 _
            · have hfl : (fillAll x.head (withP x.body rk (j : Int) rn).1).length ≤ 20000 := Nat.le_trans (fillAll_le x.head _) (with_short x.body rk (j : Int) rn).1
              have HNP2 := Lib.hid (HNJ.out.trans (newP_on hn h2))
              have HJM := Lib.hid (joinE_made (o := o ++ u) (h3 x.head))
              have HLL := Lib.hid (envs_short hbad h1)
              have HUA2 := Lib.hid (show ∀ z ∈ u ++ fillAll x.head (withP x.body rk (j : Int) rn).1, z.args.length ≤ 1048576 from fun z hz => by
                rcases List.mem_append.1 hz with h | h
                · exact HUA.out z h
                · rw [fillAll_args h]; exact hxh)
              have hul2 : (u ++ fillAll x.head (withP x.body rk (j : Int) rn).1).length ≤ (j + 1) * 20000 := by rw [List.length_append]; exact mul_add hul hfl
              have HMD := Lib.hid (show (madeE x.head ls).length ≤ 1048576 from by
                have g1 := ofF_length (ls.filterMap fun b => fillP x.head b)
                have g2 := List.length_filterMap_le (fun b => fillP x.head b) ls
                have g3 := HLL.out
                unfold madeE; omega)
              have HMDA := Lib.hid (show ∀ z ∈ madeE x.head ls, z.args.length ≤ 1048576 from fun z hz => by
                unfold madeE at hz
                obtain ⟨b, -, hf⟩ := List.mem_filterMap.1 ((mem_ofF z _).1 hz)
                rw [fillP_len hf]; exact hxh)
              generalize fillAll x.head (withP x.body rk (j : Int) rn).1 = fl at *
              rw [List.append_assoc] at HJM
              have KN := KE.out _ HW3.out.below (j : Int)
              rw [h1] at KN
              have KX := Lib.hid (KN.mono (R' := fun e w' => (∃ a c, e = .returned (.tuple #[.slice a ls.length c, .int .i64 0]) ∧ RdEnvs 20 (fun _ => True) w' (.slice a ls.length c) ls) ∧ Below (wr.alloc (.cells #[.bool false, .string y.name, .slice ya y.terms.length yc] 40)).heap.size (wr.alloc (.cells #[.bool false, .string y.name, .slice ya y.terms.length yc] 40)) w') fun e w' ⟨g1, a, c, g2, g3⟩ => ⟨⟨a, c, g2, g3.more (REnv.steady _) (fun _ _ _ => trivial)⟩, g1⟩)
              have KJ := Lib.hid (fun W va vb (g0 : w.heap.size + 2 ≤ W.heap.size) (g1 : RdFacts (Off U w) W va (ofF (o ++ u))) (g2 : RdFacts (Off U w) W vb (madeE x.head ls)) => bothOff va vb (ofF (o ++ u)) (madeE x.head ls) w W g0 g1 g2 (by omega) (by have := HMD.out; omega) (fun z hz => by have := HMA.out z hz; omega) (fun z hz => by have := HMDA.out z hz; omega))
              clear hn HNJ h1 h2 h3 KN
              go_wp2_with (first
                | (go_at_call 59; have hh := HY6.out; clear hh; refine (KJ.out _ _ _ HL6.out HO6.out HY6.out).mono ?_; rintro e w7 ⟨⟨v7, rfl, hr7⟩, hb7⟩; rw [HJM.out] at hr7; obtain ⟨a7, c7, rfl, -, -, -⟩ := id hr7.form; have HT7 := Lib.hid (HT6.out.trans (hb7.mono (Below.size HT6.out))); have HO7 := Lib.hid hr7; clear hr7 hb7)
                | (go_at_call 61; have hh := HX5.out; clear hh; refine (KM.out _ _ _ HW5.out.below HX5.out HLL.out).mono ?_; rintro e w6 ⟨⟨a6, c6, rfl, hr6⟩, hb6⟩; have HT6 := Lib.hid (HT5.out.trans (hb6.mono (Below.size HT5.out))); have HO6 := Lib.hid (RdFacts.hold HO5.out hb6); have HY6 := Lib.hid (hr6.more RFact.steady (S' := Off U w) (fun b hb _ => by have h1 := HW5.out.lt; have h2 : w5.heap.size ≤ b := hb; exact ⟨.inr (by omega), by omega⟩)); have HL6 := Lib.hid (show w.heap.size + 2 ≤ w6.heap.size by have h1 := HW5.out.lt; have h2 := Below.size hb6; omega); clear hr6 hb6)
                | (go_at_call 60; refine (KX.out).mono ?_; rintro e w5 ⟨⟨a5, c5, rfl, hx5⟩, hb5⟩; have HW5 := Lib.hid (HW3.out.next hb5); have HT5 := Lib.hid (HT3.out.trans (hb5.mono (Below.size HT3.out))); have HO5 := Lib.hid (RdFacts.hold HO3.out hb5); have HX5 := Lib.hid hx5; have hk5 := (HKT.out.alloc (.cells #[.bool false, .string y.name, .slice ya y.terms.length yc] 40)).below hb5 (by simp; omega); have p0 := hk5.cell 0; have p1 := hk5.cell 1; have p2 := hk5.cell 2; have p3 := hk5.cell 3; simp only [List.getElem?_toArray, List.getElem?_cons_zero, List.getElem?_cons_succ] at p0 p1 p2 p3; clear hb5 hx5 hk5))
              go_roundw
              case rel => exact ⟨j + 1, cso + 1, u ++ fl, a7, c7, by omega, by go_num, by go_num, by omega, rfl, hul2, HUA2, fun h => absurd h (by omega), HO7, HT7, HNP2⟩
              case measure => simp [intOf]; omega
        · by_cases hc0 : cso = 0
          · have hu := hu0 hc0
            subst hc0
            subst hu
            have HNE := Lib.hid (show newHeads x rk rn = headsP x rk by rw [HNP.out, List.drop_eq_nil_of_le (by omega), decide_eq_false (by omega : ¬ 0 < 0)]; exact newP_plain)
            simp only [List.append_nil] at HO HMA hmax
            have hHE := headsE_eq (x := x) (l := rk) hbad hk0
            unfold headsE at hHE
            cases h1 : envsP x.body rk (-1) [] with
            | none =>
              have HHE := Lib.hid (show (([], 4) : List PFact × Int) = headsP x rk by rw [h1] at hHE; exact hHE)
              have HEB := Lib.hid (HNE.out.trans HHE.out.symm)
              clear hHE
              have HP := Lib.hid (P1.out (by rw [HEB.out]; decide))
              have HER := Lib.hid (M1.out (by rw [HP.out, HEB.out]; decide))
              rw [HP.out, HEB.out] at HER
              have KN := KE0.out _ HWt.out.below
              rw [h1] at KN
              have KX := Lib.hid (KN.mono (R' := fun e w' => e = .returned (.tuple #[.slice none 0 0, .int .i64 4]) ∧ Below wr.heap.size wr w') fun e w' ⟨g1, g2⟩ => ⟨g2, g1⟩)
              clear HHE HNE h1 KN HP HEB M1 M2 P1 P2 HNP
              go_wp2_with (go_at_call 60; refine (KX.out).mono ?_; rintro e w5 ⟨rfl, hb5⟩; have HW5 := Lib.hid (HWt.out.next hb5); have c0 := HW5.out.q.cell 0; have c1 := HW5.out.q.cell 1; have c2 := HW5.out.q.cell 2; have c3 := HW5.out.q.cell 3; have c4 := HW5.out.q.cell 4; have z0 := HW5.out.q.frozen 0; have z1 := HW5.out.q.frozen 1; have z2 := HW5.out.q.frozen 2; have z3 := HW5.out.q.frozen 3; have z4 := HW5.out.q.frozen 4; simp only [List.getElem?_toArray, List.getElem?_cons_zero, List.getElem?_cons_succ] at c0 c1 c2 c3 c4; clear hb5)
              refine bodyPost_ret (v := .tuple #[.agg #[.slice none 0 0, .slice none 0 0, .int .i64 0, .int .i64 0, .bool false], .int .i64 4]) (by simp [results, Tryz.results33, go_sem, c0, c1, c2, c3, c4]) rfl (runU_err HER.out ?_)
              exact ((((HW5.out.below.setCell hq1 _).setCell hq1 _).setCell hq1 _).setCell hq1 _).setCell hq1 _
            | some ls =>
              have HHE := Lib.hid (show ((madeE x.head ls, 0) : List PFact × Int) = headsP x rk by rw [h1] at hHE; exact hHE)
              have HEB := Lib.hid (HNE.out.trans HHE.out.symm)
              clear hHE
              have hfl : (madeE x.head ls).length ≤ 20000 := by
                have g := heads_len x rk
                rw [← HHE.out] at g
                exact g
              have HP := Lib.hid (P2.out (by rw [HEB.out]))
              have HP2 := Lib.hid (show makeP rs rk rn (p.zip st) [] = makeP rs rk rn ((p.zip st).drop (k + 1)) (o ++ madeE x.head ls) by rw [HP.out, HEB.out])
              have HJM := Lib.hid (join_any o (madeE x.head ls))
              have HLL := Lib.hid (envs_short hbad h1)
              have HMDA := Lib.hid (show ∀ z ∈ madeE x.head ls, z.args.length ≤ 1048576 from fun z hz => by
                unfold madeE at hz
                obtain ⟨b, -, hf⟩ := List.mem_filterMap.1 ((mem_ofF z _).1 hz)
                rw [fillP_len hf]; exact hxh)
              have hol2 : (o ++ madeE x.head ls).length ≤ (k + 1) * 120000 := by rw [List.length_append]; exact mul_add hol (Nat.le_trans hfl (by omega))
              have HOA2 := Lib.hid (show ∀ z ∈ o ++ madeE x.head ls, z.args.length ≤ 1048576 from fun z hz => (List.mem_append.1 hz).elim (HOA.out z) (HMDA.out z))
              have KN := KE0.out _ HWt.out.below
              rw [h1] at KN
              have KX := Lib.hid (KN.mono (R' := fun e w' => (∃ a c, e = .returned (.tuple #[.slice a ls.length c, .int .i64 0]) ∧ RdEnvs 20 (fun _ => True) w' (.slice a ls.length c) ls) ∧ Below wr.heap.size wr w') fun e w' ⟨g1, a, c, g2, g3⟩ => ⟨⟨a, c, g2, g3.more (REnv.steady _) (fun _ _ _ => trivial)⟩, g1⟩)
              have KJ := Lib.hid (fun W va vb (g0 : w.heap.size + 2 ≤ W.heap.size) (g1 : RdFacts (Off U w) W va (ofF o)) (g2 : RdFacts (Off U w) W vb (madeE x.head ls)) => bothOff va vb (ofF o) (madeE x.head ls) w W g0 g1 g2 (by omega) (by omega) (fun z hz => by have := HMA.out z hz; omega) (fun z hz => by have := HMDA.out z hz; omega))
              clear HHE HNE h1 KN HP HEB P1 P2 HNP
              go_wp2_with (first
                | (go_at_call 59; have hh := HY6.out; clear hh; refine (KJ.out _ _ _ HL6.out HO6.out HY6.out).mono ?_; rintro e w7 ⟨⟨v7, rfl, hr7⟩, hb7⟩; rw [HJM.out] at hr7; obtain ⟨a7, c7, rfl, -, -, -⟩ := id hr7.form; have HT7 := Lib.hid (HT6.out.trans (hb7.mono (Below.size HT6.out))); have HO7 := Lib.hid hr7; clear hr7 hb7)
                | (go_at_call 61; have hh := HX5.out; clear hh; refine (KM.out _ _ _ HW5.out.below HX5.out HLL.out).mono ?_; rintro e w6 ⟨⟨a6, c6, rfl, hr6⟩, hb6⟩; have HT6 := Lib.hid (HT5.out.trans (hb6.mono (Below.size HT5.out))); have HO6 := Lib.hid (RdFacts.hold HO5.out hb6); have HY6 := Lib.hid (hr6.more RFact.steady (S' := Off U w) (fun b hb _ => by have h1 := HW5.out.lt; have h2 : w5.heap.size ≤ b := hb; exact ⟨.inr (by omega), by omega⟩)); have HL6 := Lib.hid (show w.heap.size + 2 ≤ w6.heap.size by have h1 := HW5.out.lt; have h2 := Below.size hb6; omega); clear hr6 hb6)
                | (go_at_call 60; refine (KX.out).mono ?_; rintro e w5 ⟨⟨a5, c5, rfl, hx5⟩, hb5⟩; have HW5 := Lib.hid (HWt.out.next hb5); have HT5 := Lib.hid (HBt.out.trans (hb5.mono (Below.size HBt.out))); have HO5 := Lib.hid (RdFacts.hold HO.out hb5); have HX5 := Lib.hid hx5; have hk5 := HKT.out.below hb5 hltk; have p0 := hk5.cell 0; have p1 := hk5.cell 1; have p2 := hk5.cell 2; have p3 := hk5.cell 3; simp only [List.getElem?_toArray, List.getElem?_cons_zero, List.getElem?_cons_succ] at p0 p1 p2 p3; clear hb5 hx5 hk5))
              go_roundw
              case rel => exact ⟨k + 1, o ++ madeE x.head ls, a7, c7, by omega, by go_num, rfl, hol2, HOA2, HO7, HT7, HP2⟩
              case measure => simp [intOf]; omega
          · have hcp : ¬ (cso : Int) = 0 := by omega
            have hcb : ((cso : Int) == 0) = false := beq_eq_false_iff_ne.2 hcp
            have HNE := Lib.hid (show newHeads x rk rn = (u, 0) by
              rw [HNP.out, List.drop_eq_nil_of_le (by omega), decide_eq_true (by omega : 0 < cso)]; exact newP_end)
            have HP := Lib.hid (P2.out (by rw [HNE.out]))
            have HP2 := Lib.hid (show makeP rs rk rn (p.zip st) [] = makeP rs rk rn ((p.zip st).drop (k + 1)) (o ++ u) by rw [HP.out, HNE.out])
            have hol2 : (o ++ u).length ≤ (k + 1) * 120000 := by rw [List.length_append]; exact mul_add hol (Nat.le_trans hul (Nat.le_trans (Nat.mul_le_mul_right _ (show j ≤ 5 by omega)) (by omega)))
            have HOA2 := Lib.hid (show ∀ z ∈ o ++ u, z.args.length ≤ 1048576 from fun z hz => (List.mem_append.1 hz).elim (HOA.out z) (HUA.out z))
            clear HP HNE HNP P1 P2
            go_wp2
            go_roundw
            case rel => exact ⟨k + 1, o ++ u, _, _, by omega, by go_num, rfl, hol2, HOA2, HO, HBt, HP2⟩
            case measure => simp [intOf]; omega
    · have HMM := Lib.hid (show makeP rs rk rn (p.zip st) [] = (o, 0) by rw [HM.out, List.drop_eq_nil_of_le (by rw [List.length_zip]; omega)]; rfl)
      have HEE := Lib.hid (M2.out o HMM.out)
      have hol2 : o.length ≤ 16 * 120000 := Nat.le_trans hol (Nat.mul_le_mul_right _ (by omega))
      clear M1 M2 HM
      have hr0 := HOK.out.r0
      have hr1 := HOK.out.r1
      have hs0 := HOK.out.s0
      have hs1 := HOK.out.s1
      dsimp only at hr0 hr1 hs0 hs1
      have hwr : IntKind.i64.wrap (rr + 1) = rr + 1 := by rw [IntKind.wrap_i64]; omega
      have hws : IntKind.i64.wrap (rs + 1) = rs + 1 := by rw [IntKind.wrap_i64]; omega
      have HOF := Lib.hid (show (ofF o).length ≤ 1920000 by have := ofF_length o; omega)
      have HFA := Lib.hid (show ∀ y ∈ ofF o, y.args.length ≤ 1048576 from fun y hy => HOA.out y ((mem_ofF y o).1 hy))
      have HNX := Lib.hid (show nextRun (countP st) ⟨rk, rn, rs, rr, false⟩ o = if lessF (ofF o) rk = [] then ⟨joinF rk (lessF (ofF o) rk), joinF rk (lessF (ofF o) rk), rs + 1, rr + 1, rs + 1 == countP st⟩ else ⟨joinF rk (lessF (ofF o) rk), lessF (ofF o) rk, rs, rr + 1, false⟩ from rfl)
      try dsimp only at HEE
      rw [HNX.out, join_less] at HEE
      have hz0 := HWW.out.lt
      have q0 := HWW.out.rb.cell 0; have q2' := HWW.out.rb.cell 2; have q3 := HWW.out.rb.cell 3
      simp only [List.getElem?_toArray, List.getElem?_cons_zero, List.getElem?_cons_succ] at q0 q2' q3
      clear HMM HNX
      generalize ofF o = of at *
      have HKN := Lib.hid (HRK.out.more RFact.steady (S' := fun b => U b ∧ b < w.heap.size) (fun _ hb hl => ⟨hb, hl⟩))
      have KBO := Lib.hid (fun W (hW : Below w.heap.size w W) (g0 : w.heap.size + 2 ≤ W.heap.size) (g1 : RdFacts (Off U w) W (.slice ma of.length mc) of) => bothOff (.slice ka rk.length kc) (.slice ma of.length mc) rk of w W g0 ((RdSlice.agree RFact.steady (Below.agree hW) HKN.out).more RFact.steady (fun b hb _ => ⟨.inl hb.1, by have h2 := hb.2; omega⟩)) g1 (by have := NS.out.k1; omega) (by have := HOF.out; omega) (fun y hy => by have := NS.out.k2 y hy; omega) (fun y hy => by have := HFA.out y hy; omega))
      have KBC := Lib.hid (fun C W (hW : Below w.heap.size w W) (hc : C < W.heap.size) (hC : w.heap.size ≤ C) (g0 : w.heap.size + 2 ≤ W.heap.size) (g1 : RdFacts (OffC U w C) W (.slice ma of.length mc) of) => bothC (.slice ka rk.length kc) (.slice ma of.length mc) rk of w W C hc g0 ((RdSlice.agree RFact.steady (Below.agree hW) HKN.out).more RFact.steady (fun b hb _ => by have h2 := hb.2; exact ⟨by omega, .inl hb.1, by omega⟩)) g1 (by have := NS.out.k1; omega) (by have := HOF.out; omega) (fun y hy => by have := NS.out.k2 y hy; omega) (fun y hy => by have := HFA.out y hy; omega))
      have KMO := Lib.hid (fun W (hW : Below w.heap.size w W) (g0 : w.heap.size + 2 ≤ W.heap.size) (g1 : RdFacts (Off U w) W (.slice ma of.length mc) of) => minusOff (.slice ma of.length mc) (.slice ka rk.length kc) of rk w W g0 g1 (RdFacts.up HKN.out hW) (by have := HOF.out; omega) (fun y hy => by have := HFA.out y hy; omega) (by have := NS.out.k1; omega) (fun y hy => by have := NS.out.k2 y hy; omega))
      have KMC := Lib.hid (fun C W (hW : Below w.heap.size w W) (hc : C < W.heap.size) (g0 : w.heap.size + 2 ≤ W.heap.size) (g1 : RdFacts (OffC U w C) W (.slice ma of.length mc) of) => minusC (.slice ma of.length mc) (.slice ka rk.length kc) of rk w W C hc g0 g1 (RdFacts.up HKN.out hW) (by have := HOF.out; omega) (fun y hy => by have := HFA.out y hy; omega) (by have := NS.out.k1; omega) (fun y hy => by have := NS.out.k2 y hy; omega))
      clear HFA
      generalize lessF of rk = nw at *
      generalize joinF rk of = kn at *
      have hy1 : w.heap.size < wr.heap.size := by omega
      have hy2 : wr.heap.size ≠ w.heap.size := by omega
      have hy3 : w.heap.size ≠ wr.heap.size := by omega
      have HWD := Lib.hid HWW.out.drew
      have HBD := Lib.hid HB.out.drew
      have HOD := Lib.hid (show RdFacts (Off U w) wr.drew (.slice ma of.length mc) of from RdFacts.hold HO.out (Below.refl _ _).drew)
      have HWA := Lib.hid (HWW.out.alloc (.cells #[.slice none 0 0, .slice none 0 0, .int .i64 0, .int .i64 0, .bool false] 47)).drew
      have HBA := Lib.hid (HB.out.alloc hbs (.cells #[.slice none 0 0, .slice none 0 0, .int .i64 0, .int .i64 0, .bool false] 47)).drew
      have HCA := Lib.hid (show Blk (wr.alloc (.cells #[.slice none 0 0, .slice none 0 0, .int .i64 0, .int .i64 0, .bool false] 47)).drew wr.heap.size 47 #[.slice none 0 0, .slice none 0 0, .int .i64 0, .int .i64 0, .bool false] from (Blk.new wr _ _).drew)
      have HOAL := Lib.hid (show RdFacts (OffC U w wr.heap.size) (wr.alloc (.cells #[.slice none 0 0, .slice none 0 0, .int .i64 0, .int .i64 0, .bool false] 47)).drew (.slice ma of.length mc) of from RdFacts.hold (RdFacts.laidQ (HO.out.more RFact.steady (fun b hb hl => ⟨by omega, hb⟩)) _) (Below.refl _ _).drew)
      go_wp2_with fail
      go_cut [19] (fun t wx => StepCutR U w wo (.slice ka rk.length kc) (.slice na rn.length nc) rs rr kn nw t wx)
      case first =>
        go_region_held3 (fun w' => w'.cell? ⟨w.heap.size, 0, none⟩ = some (.slice ka rk.length kc) ∧ w'.cell? ⟨w.heap.size, 2, none⟩ = some (.int .i64 rs) ∧ w'.cell? ⟨w.heap.size, 3, none⟩ = some (.int .i64 rr))
          (first | (with_reducible exact ⟨j0, j2, j3⟩) | (with_reducible exact ⟨k0, k2, k3⟩) | go_keep)
          (first
            | (go_at_call 64; have hh := HC5.out; clear hh; (with_reducible refine (KMC.out wr.heap.size _ HW5.out.below HC5.out.lt (by have := HW5.out.lt; omega) HO5.out).mono ?_); rintro e w6 ⟨⟨v6, rfl, hr6⟩, hb6⟩; obtain ⟨a6, c6, rfl, -, -, -⟩ := id hr6.form; have HW6 := Lib.hid (HW5.out.next hb6); have HB6 := Lib.hid (HB5.out.trans (hb6.mono (Below.size HB5.out))); have HC6 := Lib.hid (HC5.out.below hb6 HC5.out.lt); have HF6 := Lib.hid (RdFacts.hold HF5.out hb6); have HN6 := Lib.hid hr6; have c0 := HC6.out.cell 0; have c1 := HC6.out.cell 1; have c2 := HC6.out.cell 2; have c3 := HC6.out.cell 3; have c4 := HC6.out.cell 4; have z0 := HC6.out.frozen 0; have z1 := HC6.out.frozen 1; have z2 := HC6.out.frozen 2; have z3 := HC6.out.frozen 3; have z4 := HC6.out.frozen 4; simp only [List.getElem?_toArray, List.getElem?_cons_zero, List.getElem?_cons_succ] at c0 c1 c2 c3 c4; have j0 := HW6.out.rb.cell 0; have j2 := HW6.out.rb.cell 2; have j3 := HW6.out.rb.cell 3; simp only [List.getElem?_toArray, List.getElem?_cons_zero, List.getElem?_cons_succ] at j0 j2 j3; have hz6 := HW6.out.lt; have hz61 : w.heap.size < w6.heap.size := (by omega); have hz62 : w6.heap.size ≠ w.heap.size := (by omega); have hz63 : w.heap.size ≠ w6.heap.size := (by omega); clear hr6 hb6)
            | (go_at_call 64; have hh := HF5.out; clear hh; (with_reducible refine (KMC.out w5.heap.size _ (HW5.out.alloc (.cells #[.slice none 0 0, .slice none 0 0, .int .i64 0, .int .i64 0, .bool false] 47)).below (by simp) (by have := (HW5.out.alloc (.cells #[.slice none 0 0, .slice none 0 0, .int .i64 0, .int .i64 0, .bool false] 47)).lt; omega) (RdFacts.laidQ (HO5.out.more RFact.steady (S' := OffC U w w5.heap.size) (fun b hb hl => offC_of hl hb)) (.cells #[.slice none 0 0, .slice none 0 0, .int .i64 0, .int .i64 0, .bool false] 47))).mono ?_); rintro e w6 ⟨⟨v6, rfl, hr6⟩, hb6⟩; obtain ⟨a6, c6, rfl, -, -, -⟩ := id hr6.form; have HW6 := Lib.hid ((HW5.out.alloc (.cells #[.slice none 0 0, .slice none 0 0, .int .i64 0, .int .i64 0, .bool false] 47)).next hb6); have HB6 := Lib.hid ((HB5.out.alloc (Below.size HB5.out) (.cells #[.slice none 0 0, .slice none 0 0, .int .i64 0, .int .i64 0, .bool false] 47)).trans (hb6.mono (Nat.le_trans (Below.size HB5.out) (by simp)))); have HC6 := Lib.hid ((Blk.new w5 47 #[.slice none 0 0, .slice none 0 0, .int .i64 0, .int .i64 0, .bool false]).below hb6 (by simp)); have HF6 := Lib.hid (RdFacts.hold (RdFacts.laidQ (HF5.out.more RFact.steady (S' := OffC U w w5.heap.size) (fun b hb hl => offC_of hl hb)) (.cells #[.slice none 0 0, .slice none 0 0, .int .i64 0, .int .i64 0, .bool false] 47)) hb6); have HN6 := Lib.hid hr6; have c0 := HC6.out.cell 0; have c1 := HC6.out.cell 1; have c2 := HC6.out.cell 2; have c3 := HC6.out.cell 3; have c4 := HC6.out.cell 4; have z0 := HC6.out.frozen 0; have z1 := HC6.out.frozen 1; have z2 := HC6.out.frozen 2; have z3 := HC6.out.frozen 3; have z4 := HC6.out.frozen 4; simp only [List.getElem?_toArray, List.getElem?_cons_zero, List.getElem?_cons_succ] at c0 c1 c2 c3 c4; have j0 := HW6.out.rb.cell 0; have j2 := HW6.out.rb.cell 2; have j3 := HW6.out.rb.cell 3; simp only [List.getElem?_toArray, List.getElem?_cons_zero, List.getElem?_cons_succ] at j0 j2 j3; have hz6 := HW6.out.lt; have hz61 : w.heap.size < w6.heap.size := (by omega); have hz62 : w6.heap.size ≠ w.heap.size := (by omega); have hz63 : w.heap.size ≠ w6.heap.size := (by omega); clear hr6 hb6)
            | (go_at_call 64; have hh := HF5.out; clear hh; (with_reducible refine (KMO.out _ HW5.out.below (by have := HW5.out.lt; omega) HO5.out).mono ?_); rintro e w6 ⟨⟨v6, rfl, hr6⟩, hb6⟩; obtain ⟨a6, c6, rfl, -, -, -⟩ := id hr6.form; have HW6 := Lib.hid (HW5.out.next hb6); have HB6 := Lib.hid (HB5.out.trans (hb6.mono (Below.size HB5.out))); have HF6 := Lib.hid (RdFacts.hold HF5.out hb6); have HN6 := Lib.hid hr6; have j0 := HW6.out.rb.cell 0; have j2 := HW6.out.rb.cell 2; have j3 := HW6.out.rb.cell 3; simp only [List.getElem?_toArray, List.getElem?_cons_zero, List.getElem?_cons_succ] at j0 j2 j3; have hz6 := HW6.out.lt; have hz61 : w.heap.size < w6.heap.size := (by omega); have hz62 : w6.heap.size ≠ w.heap.size := (by omega); have hz63 : w.heap.size ≠ w6.heap.size := (by omega); clear hr6 hb6)
            | (go_at_call 59; (with_reducible refine (KBC.out wr.heap.size _ HWA.out.below (by simp) (by omega) (by have := HWA.out.lt; omega) HOAL.out).mono ?_); rintro e w5 ⟨⟨v5, rfl, hr5⟩, hb5⟩; obtain ⟨a5, c5, rfl, -, -, -⟩ := id hr5.form; have HW5 := Lib.hid (HWA.out.next hb5); have HB5 := Lib.hid (HBA.out.trans (hb5.mono (Below.size HBA.out))); have HC5 := Lib.hid (HCA.out.below hb5 (by simp)); have HF5 := Lib.hid hr5; have HO5 := Lib.hid (RdFacts.hold HOAL.out hb5); have k0 := HW5.out.rb.cell 0; have k2 := HW5.out.rb.cell 2; have k3 := HW5.out.rb.cell 3; simp only [List.getElem?_toArray, List.getElem?_cons_zero, List.getElem?_cons_succ] at k0 k2 k3; have hz5 := HW5.out.lt; have hz51 : w.heap.size < w5.heap.size := (by omega); have hz52 : w5.heap.size ≠ w.heap.size := (by omega); have hz53 : w.heap.size ≠ w5.heap.size := (by omega); clear hr5 hb5)
            | (go_at_call 59; (with_reducible refine (KBO.out _ HWD.out.below (by have := HWD.out.lt; omega) HOD.out).mono ?_); rintro e w5 ⟨⟨v5, rfl, hr5⟩, hb5⟩; obtain ⟨a5, c5, rfl, -, -, -⟩ := id hr5.form; have HW5 := Lib.hid (HWD.out.next hb5); have HB5 := Lib.hid (HBD.out.trans (hb5.mono (Below.size HBD.out))); have HF5 := Lib.hid hr5; have HO5 := Lib.hid (RdFacts.hold HOD.out hb5); have k0 := HW5.out.rb.cell 0; have k2 := HW5.out.rb.cell 2; have k3 := HW5.out.rb.cell 3; simp only [List.getElem?_toArray, List.getElem?_cons_zero, List.getElem?_cons_succ] at k0 k2 k3; have hz5 := HW5.out.lt; have hz51 : w.heap.size < w5.heap.size := (by omega); have hz52 : w5.heap.size ≠ w.heap.size := (by omega); have hz53 : w.heap.size ≠ w5.heap.size := (by omega); clear hr5 hb5))
        all_goals
          go_wp2_with fail
          go_meet
          have hwol := HW2.out.lt
          first
            | (with_reducible refine stepCutR_mk (W := w6) (C := wr.heap.size) ?_ ?_ HW6.out HB6.out HC6.out HF6.out HN6.out) <;> (first | exact hbs | omega)
            | (with_reducible refine stepCutR_mk (W := w6) (C := w5.heap.size) ?_ ?_ HW6.out HB6.out HC6.out HF6.out HN6.out) <;> (first | exact Below.size HB5.out | omega)
            | ((with_reducible refine stepCutR_new (W := w6) ?_ HW6.out HB6.out HF6.out HN6.out); omega)
      obtain ⟨C, a7, c7, b7, d7, rfl, hC, hCo, hWx, hBx, hCx, hKx, hNx⟩ := hcut
      have HWX := Lib.hid hWx
      have HBX := Lib.hid hBx
      have HCX := Lib.hid hCx
      have HKX := Lib.hid hKx
      have HNX := Lib.hid hNx
      clear hWx hBx hCx hKx hNx HB HWW HO KBO KBC KMO KMC q0 q2' q3 HWD HBD HOD HWA HBA HCA HOAL
      have hne1 : C ≠ w.heap.size + 1 := by omega
      have hne2 : w.heap.size + 1 ≠ C := by omega
      have hne3 : C ≠ w.heap.size := by omega
      have hne4 : w.heap.size ≠ C := by omega
      have hCw : w.heap.size ≤ C := by omega
      have hn1 : ¬ OffC U w C C := fun h => h.1 rfl
      have hn2 : ¬ OffC U w C (w.heap.size + 1) := fun h => h.2.2 rfl
      have p0 := HCX.out.cell 0; have p1 := HCX.out.cell 1; have p2 := HCX.out.cell 2; have p3 := HCX.out.cell 3; have p4 := HCX.out.cell 4
      have c0 := HWX.out.q.cell 0; have c1 := HWX.out.q.cell 1; have c2 := HWX.out.q.cell 2; have c3 := HWX.out.q.cell 3; have c4 := HWX.out.q.cell 4
      have z0 := HWX.out.q.frozen 0; have z1 := HWX.out.q.frozen 1; have z2 := HWX.out.q.frozen 2; have z3 := HWX.out.q.frozen 3; have z4 := HWX.out.q.frozen 4
      simp only [List.getElem?_toArray, List.getElem?_cons_zero, List.getElem?_cons_succ] at p0 p1 p2 p3 p4 c0 c1 c2 c3 c4
      by_cases hm : 200 < kn.length
      · have HEM := Lib.hid (HEE.out.trans (if_pos hm))
        have i5 : (200 : Int) < (kn.length : Int) := by omega
        clear hm HEE
        go_wp2
        refine bodyPost_ret (v := .tuple #[.agg #[.slice none 0 0, .slice none 0 0, .int .i64 0, .int .i64 0, .bool false], .int .i64 5]) (by simp [results, Tryz.results33, go_sem, c0, c1, c2, c3, c4]) rfl (runU_err HEM.out ?_)
        exact ((((HWX.out.below.setCell hq1 _).setCell hq1 _).setCell hq1 _).setCell hq1 _).setCell hq1 _
      have i5 : ¬ (200 : Int) < (kn.length : Int) := by omega
      have HEO := Lib.hid (HEE.out.trans (if_neg hm))
      have HNO := Lib.hid hC
      clear hm HEE hC
      by_cases hnw : nw = []
      · subst hnw
        have HEN := Lib.hid (show stepRun st q.1 p ⟨rk, rn, rs, rr, false⟩ = (⟨kn, kn, rs + 1, rr + 1, rs + 1 == countP st⟩, 0) from HEO.out.trans (by rw [if_pos rfl]))
        have KC := Lib.hid (fun W sv (h1 : RdInts (fun _ => True) W sv st) => countRef sv st W h1 (by rw [HSL.out]; omega) (fun z hz => by have := HZ.out z hz; omega))
        clear HEO
        obtain ⟨dn, hdn⟩ : ∃ dn, (rs + 1 == countP st) = dn := ⟨_, rfl⟩
        rw [hdn] at HEN
        generalize countP st = cn at *
        simp only [List.length_nil] at HCX p1
        have x0 := HCX.out.frozen 0; have x1 := HCX.out.frozen 1; have x2 := HCX.out.frozen 2; have x3 := HCX.out.frozen 3; have x4 := HCX.out.frozen 4
        clear c0 c1 c2 c3 c4 z0 z1 z2 z3 z4
        go_wp2_with fail
        have HW10 := Lib.hid ((HWX.out.store (i := 1) HNO.out (.slice a7 kn.length c7)).store (i := 2) HNO.out (.int .i64 (rs + 1)))
        have HC10 := Lib.hid (show Blk ((wc.setCell ⟨C, 1, none⟩ (.slice a7 kn.length c7)).setCell ⟨C, 2, none⟩ (.int .i64 (rs + 1))) C 47 #[.slice a7 kn.length c7, .slice a7 kn.length c7, .int .i64 (rs + 1), .int .i64 (rr + 1), .bool false] from (HCX.out.set_ 1 (.slice a7 kn.length c7)).set_ 2 (.int .i64 (rs + 1)))
        have HK10 := Lib.hid (RdFacts.set_far (RdFacts.set_far HKX.out hn1 (p := ⟨C, 1, none⟩) (.slice a7 kn.length c7)) hn1 (p := ⟨C, 2, none⟩) (.int .i64 (rs + 1)))
        have HB10 := Lib.hid ((HBX.out.setCell (p := ⟨C, 1, none⟩) hCo (.slice a7 kn.length c7)).setCell (p := ⟨C, 2, none⟩) hCo (.int .i64 (rs + 1)))
        clear HWX HCX HKX HNX HBX p0 p1 p2 p3 p4 x0 x1 x2 x3 x4
        generalize (wc.setCell ⟨C, 1, none⟩ (.slice a7 kn.length c7)).setCell ⟨C, 2, none⟩ (.int .i64 (rs + 1)) = w10 at *
        have u2 := HC10.out.cell 2
        have u4 := HC10.out.cell 4
        have x4 := HC10.out.frozen 4
        simp only [List.getElem?_toArray, List.getElem?_cons_zero, List.getElem?_cons_succ] at u2 u4
        have HW11 := Lib.hid (HW10.out.store (i := 4) HNO.out (.bool dn)).drew
        have HC11 := Lib.hid (show Blk (w10.setCell ⟨C, 4, none⟩ (.bool dn)).drew C 47 #[.slice a7 kn.length c7, .slice a7 kn.length c7, .int .i64 (rs + 1), .int .i64 (rr + 1), .bool dn] from (HC10.out.set_ 4 (.bool dn)).drew)
        have HK11 := Lib.hid (show RdFacts (OffC U w C) (w10.setCell ⟨C, 4, none⟩ (.bool dn)).drew (.slice a7 kn.length c7) kn from RdSlice.agree RFact.steady (Agree.refl _ _).drew (RdFacts.set_far HK10.out hn1 (p := ⟨C, 4, none⟩) (.bool dn)))
        have hset := HC11.out.cell 2
        simp only [List.getElem?_toArray, List.getElem?_cons_zero, List.getElem?_cons_succ] at hset
        go_region_held3 (fun w' => w'.cell? ⟨C, 2, none⟩ = some (.int .i64 (rs + 1))) (first | (with_reducible exact hset) | go_keep)
          (first | (go_at_call 22; refine (KC.out _ _ (HI2.out.up HB10.out.drew)).mono ?_; rintro e w11 ⟨rfl, rfl⟩))
        clear hset HW10 HC10 HK10
        clear u2 u4 x4
        generalize (w10.setCell ⟨C, 4, none⟩ (.bool dn)).drew = w12 at *
        have u0 := HC11.out.cell 0; have u1 := HC11.out.cell 1; have u2 := HC11.out.cell 2; have u3 := HC11.out.cell 3; have u4 := HC11.out.cell 4
        have c0 := HW11.out.q.cell 0; have c1 := HW11.out.q.cell 1; have c2 := HW11.out.q.cell 2; have c3 := HW11.out.q.cell 3; have c4 := HW11.out.q.cell 4
        have z0 := HW11.out.q.frozen 0; have z1 := HW11.out.q.frozen 1; have z2 := HW11.out.q.frozen 2; have z3 := HW11.out.q.frozen 3; have z4 := HW11.out.q.frozen 4
        simp only [List.getElem?_toArray, List.getElem?_cons_zero, List.getElem?_cons_succ] at u0 u1 u2 u3 u4 c0 c1 c2 c3 c4
        go_wp2
        refine bodyPost_ret (v := .tuple #[.agg #[.slice a7 kn.length c7, .slice a7 kn.length c7, .int .i64 (rs + 1), .int .i64 (rr + 1), .bool dn], .int .i64 0]) (by simp [results, Tryz.results33, go_sem, c0, c1, c2, c3, c4]) rfl (runU_ok HEN.out ?_ ?_ ?_)
        · exact ((((HW11.out.below.setCell hq1 _).setCell hq1 _).setCell hq1 _).setCell hq1 _).setCell hq1 _
        · exact (RdFacts.set_far (RdFacts.set_far (RdFacts.set_far (RdFacts.set_far (RdFacts.set_far HK11.out hn2 _) hn2 _) hn2 _) hn2 _) hn2 _).more RFact.steady (fun _ hb _ => hb.2.1)
        · exact (RdFacts.set_far (RdFacts.set_far (RdFacts.set_far (RdFacts.set_far (RdFacts.set_far HK11.out hn2 _) hn2 _) hn2 _) hn2 _) hn2 _).more RFact.steady (fun _ hb _ => hb.2.1)
      · have HEN := Lib.hid (show stepRun st q.1 p ⟨rk, rn, rs, rr, false⟩ = (⟨kn, nw, rs, rr + 1, false⟩, 0) from HEO.out.trans (by rw [if_neg hnw]))
        have i6 : ((nw.length : Int) == 0) = false := beq_eq_false_iff_ne.2 (by have := List.length_pos_iff.2 hnw; omega)
        have i7 : ¬ (nw.length : Int) = 0 := by have := List.length_pos_iff.2 hnw; omega
        clear hnw HEO
        go_wp2
        refine bodyPost_ret (v := .tuple #[.agg #[.slice a7 kn.length c7, .slice b7 nw.length d7, .int .i64 rs, .int .i64 (rr + 1), .bool false], .int .i64 0]) (by simp [results, Tryz.results33, go_sem, c0, c1, c2, c3, c4]) rfl (runU_ok HEN.out ?_ ?_ ?_)
        · exact ((((HWX.out.below.setCell hq1 _).setCell hq1 _).setCell hq1 _).setCell hq1 _).setCell hq1 _
        · exact (RdFacts.set_far (RdFacts.set_far (RdFacts.set_far (RdFacts.set_far (RdFacts.set_far HKX.out hn2 _) hn2 _) hn2 _) hn2 _) hn2 _).more RFact.steady (fun _ hb _ => hb.2.1)
        · exact (RdFacts.set_far (RdFacts.set_far (RdFacts.set_far (RdFacts.set_far (RdFacts.set_far HNX.out hn2 _) hn2 _) hn2 _) hn2 _) hn2 _).more RFact.steady (fun _ hb _ => hb.2.1)

end Go.Proofs.YtbbiapgkcekabaaGreat
