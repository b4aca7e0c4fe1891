/-
  corotop.TopWhy ALWAYS ANSWERS TRUE: each way is proved by roads; its proof's roads, told alone, are enough. For any arguments of ordinary size; without conditions.
-/
import Derived.Test.YtgoaiohkodbadaaGreatPk14
import Derived.Test.YtgoaiohkodbadaaGreatPk16
import Derived.Test.YtgoaiohkodbadaaGreatPk17
import Derived.Test.YtgoaiohkodbadaaGreatPk24
import Derived.Test.YtgoaiohkodbadaaGreatPk25
import Derived.Test.YtgoaiohkodbadaaGreatChecked
namespace Go.Proofs.YtgoaiohkodbadaaGreat
open Go.RowKit Go.ChangeShapes Go.WideShapes Go.Deep

def ProofNo (n : Int) (w : World) (e : Ending) (w' : World) : Prop := e = .returned (.tuple #[.agg #[.string ⟨#[]⟩, .slice none 0 0, .int .i64 0, .slice none 0 0], .int .i64 n]) ∧ Below w.heap.size w w'
def ProofYes (x : PProof) (w : World) (e : Ending) (w' : World) : Prop :=
  ∃ aa ac ka kc, e = .returned (.tuple #[.agg #[.string x.fact.name, .slice aa x.fact.args.length ac, .int .i64 x.rule, .slice ka x.kids.length kc], .int .i64 0]) ∧ RdStrs (fun b => b < w'.heap.size) w' (.slice aa x.fact.args.length ac) x.fact.args ∧ RdProofs 61 (fun b => b < w'.heap.size) w' (.slice ka x.kids.length kc) x.kids ∧ Below w.heap.size w w'
theorem proof_no {n : Int} {w w' : World} {e : Ending} (h : ProvePost (none, n) w e w') : ProofNo n w e w' := ⟨h.2, h.1⟩
theorem proof_yes {x : PProof} {w w' : World} {e : Ending} (h : ProvePost (some x, 0) w e w') : ProofYes x w e w' := by
  obtain ⟨hb, aa, ac, ka, kc, he, h1, h2⟩ := h
  exact ⟨aa, ac, ka, kc, he, h1.more RStr.steady (fun _ _ h => h), h2.more (RProofN.steady 61) (fun _ _ h => h), hb⟩
theorem netU_args2 {n N : Nat} {ps : List (Nat × Nat)} (h : NetOk n N ps) {l : List PFact} (hl : InU (netU n N ps) l) : ∀ x ∈ l, x.args.length ≤ 4 := fun x hx => (wrongF_zero.1 (netU_fine h x (hl.2 x hx))).2.1
theorem netU_size2 {n N : Nat} {ps : List (Nat × Nat)} (h : NetOk n N ps) {l : List PFact} (hl : InU (netU n N ps) l) : l.length ≤ 140 :=
  Nat.le_trans (nodup_le (nodup_rising hl.1) fun x hx => hl.2 x hx) (netU_len h)
theorem roads_args {es : List (Nat × Nat)} : ∀ z ∈ es.map (fun p => roadF p.1 p.2), z.args.length ≤ 1048576 := fun z hz => by
  obtain ⟨p, -, rfl⟩ := List.mem_map.1 hz
  show 2 ≤ _
  decide

theorem net_enough2 {n N : Nat} {ps : List (Nat × Nat)} (h : NetOk n N ps) {a c : Nat} (ha : a < N) (hc : c < N) {es : List (Nat × Nat)} (hw : WalkB ps N a c es) (hl : es.length ≤ N) :
    ∃ nv, naiveP [0, 0, 1] 0 roadsP (ofF (es.map fun p => roadF p.1 p.2)) = (nv, 0) ∧ memF (wayF a c) nv = true ∧ Rising nv ∧ nv.length ≤ 140 ∧ ∀ x ∈ nv, x.args.length ≤ 4 := by
  have h8 := h.nodes
  have hn : NetOk 0 N es := ⟨Nat.zero_le _, Nat.zero_le _, h.nodes, fun p hp => h.inside p (hw.sub p hp), by omega⟩
  have e : ofF (es.map fun p => roadF p.1 p.2) = netL 0 es := by unfold netL; rw [List.range_zero, List.map_nil, List.append_nil]
  rw [e]
  obtain ⟨h1, h2⟩ := net_naive hn
  rw [h1]
  refine ⟨_, rfl, ?_, h2.1, netU_size2 hn h2, netU_args2 hn h2⟩
  rw [net_way hn ha hc]
  exact reach_any hc (hw.reach fun p hp => hp)

attribute [local go_sem ↓] Go.wp_at_zero Go.wp_at_succ
set_option maxRecDepth 100000 in
set_option maxHeartbeats 16000000 in
theorem topWhyCalls {S S2 : Nat → Prop} (n : Int) (fv tv : Value) (frm tow : List Int) (a b : Int) (w : World) (hf : RdInts S w fv frm) (ht : RdInts S2 w tv tow) (n1 : frm.length ≤ 1048576) (n2 : tow.length ≤ 1048576) :
    Calls Tryz.prog 11 #[.int .i64 n, fv, tv, .int .i64 a, .int .i64 b] w fun e w' => e = .returned (.bool true) ∧ Below w.heap.size w w' := by
  obtain ⟨fa, fc, rfl, -, -, -⟩ := id hf.form
  obtain ⟨ta, tc, rfl, -, -, -⟩ := id ht.form
  have KA := Lib.hid (aliveTop w)
  by_cases hb : n < 1 ∨ 6 < n ∨ 12 < frm.length ∨ a < 0 ∨ b < 0 ∨ n ≤ a ∨ n ≤ b
  · have hcs : n < 1 ∨ ¬ n < 1 ∧ (6 : Int) < n ∨ ¬ n < 1 ∧ ¬ (6 : Int) < n ∧ (12 : Int) < (frm.length : Int) ∨ ¬ n < 1 ∧ ¬ (6 : Int) < n ∧ ¬ (12 : Int) < (frm.length : Int) ∧ a < 0 ∨ ¬ n < 1 ∧ ¬ (6 : Int) < n ∧ ¬ (12 : Int) < (frm.length : Int) ∧ ¬ a < 0 ∧ b < 0 ∨ ¬ n < 1 ∧ ¬ (6 : Int) < n ∧ ¬ (12 : Int) < (frm.length : Int) ∧ ¬ a < 0 ∧ ¬ b < 0 ∧ n ≤ a ∨ ¬ n < 1 ∧ ¬ (6 : Int) < n ∧ ¬ (12 : Int) < (frm.length : Int) ∧ ¬ a < 0 ∧ ¬ b < 0 ∧ ¬ n ≤ a ∧ n ≤ b := by omega
    clear hb hf ht
    rcases hcs with h1 | ⟨h1, h2⟩ | ⟨h1, h2, h3⟩ | ⟨h1, h2, h3, h4⟩ | ⟨h1, h2, h3, h4, h5⟩ | ⟨h1, h2, h3, h4, h5, h6⟩ | ⟨h1, h2, h3, h4, h5, h6, h7⟩
    all_goals
      go_enter Tryz.func11, Tryz.ntmps11
      go_wp2_with (go_at_call 40; refine (KA.out).mono ?_; rintro e w1 ⟨rfl, hb1⟩; have HB1 := Lib.hid hb1; clear hb1)
      go_ret
      exact ⟨rfl, HB1.out⟩
  obtain ⟨m, rfl⟩ : ∃ m : Nat, n = m := ⟨n.toNat, by omega⟩
  obtain ⟨a, rfl⟩ : ∃ m : Nat, a = m := ⟨a.toNat, by omega⟩
  obtain ⟨c, rfl⟩ : ∃ m : Nat, b = m := ⟨b.toNat, by omega⟩
  have g0 : 1 ≤ m := by omega
  have g6 : m ≤ 6 := by omega
  have gf : frm.length ≤ 12 := by omega
  have h1 : ¬ (m : Int) < 1 := by omega
  have h2 : ¬ (6 : Int) < m := by omega
  have h3 : ¬ (12 : Int) < (frm.length : Int) := by omega
  have h4 : ¬ (a : Int) < 0 := by omega
  have h5 : ¬ (c : Int) < 0 := by omega
  have h6 : ¬ (m : Int) ≤ (a : Int) := by omega
  have h7 : ¬ (m : Int) ≤ (c : Int) := by omega
  have ham : a < m := by omega
  have hcm : c < m := by omega
  clear hb
  have hok : NetOk m m (pairsP m frm tow) := ⟨g6, Nat.le_refl _, by omega, pairs_in g0, Nat.le_trans pairs_len (by omega)⟩
  have hNL := netL_len hok
  have HNA := Lib.hid (fun (x : PFact) hx => Nat.le_trans (netU_args2 hok (l := netL m (pairsP m frm tow)) net_in x hx) (show 4 ≤ 1048576 by decide))
  have HTB := Lib.hid (table_is (n := m) (by omega) (pairs_in (frm := frm) (tow := tow) g0) ham hcm)
  have HTL := Lib.hid (closeN_len (n := m) (by omega) (pairs_in (frm := frm) (tow := tow) g0) m)
  have KN := Lib.hid (fun W (hb : Below w.heap.size w W) => netsCalls m (.slice fa frm.length fc) (.slice ta tow.length tc) frm tow W g0 g6 (hf.up hb) (ht.up hb) gf n2)
  clear hf ht
  generalize pairsP m frm tow = ps at *
  have ha8 : a < 8 := by omega
  have hc8 : c < 8 := by omega
  have ai0 : (0 : Int) ≤ (a : Int) := by omega
  have ai8 : (a : Int) < 8 := by omega
  have ci0 : (0 : Int) ≤ (c : Int) := by omega
  have ci8 : (c : Int) < 8 := by omega
  have hm2 : 2 ≤ maxLen := by simp [maxLen]
  have KW1 := Lib.hid (fun W => (show Calls Tryz.prog 44 #[.int .i64 (a : Int), .int .i64 (c : Int)] W (TwoPost xway a c W) from wayCalls a c (by omega) (by omega) W))
  have HXV := Lib.hid (cellsOf_get (m := closeN m m (tableE ps)) (i := a * 8 + c) (by rw [HTL.out]; omega))
  have htv := HTB.out
  unfold cellG at htv
  rw [htv] at HXV
  have KPX := Lib.hid (fun W (T T2 T3 : Nat → Prop) rv fv av (hr : RdRules T W rv roadsP) (hf : RdFacts T2 W fv (netL m ps)) (ha : RdStrs T3 W av [tn a, tn c]) => (show Calls Tryz.prog 17 #[rv, fv, .agg #[.string xway, av]] W (ProvePost (proveP [0, 0, 1] 0 roadsP (netL m ps) (wayF a c)) W) from
    proveCalls roadsP rv fv [0, 0, 1] (0, 0) (netL m ps) (wayF a c) av W strata_roads hr hf ha (by decide) small_roads names_roads (Nat.le_trans hNL (by decide)) HNA.out (by show 2 ≤ _; decide)))
  clear htv HTB
  have hct := cellsOf_size (closeN m m (tableE ps))
  rw [HTL.out] at hct
  cases hre : reachK ps m m a c
  · rw [hre] at HXV
    have KP := Lib.hid (fun W (T T2 T3 : Nat → Prop) rv fv av (hr : RdRules T W rv roadsP) (hf : RdFacts T2 W fv (netL m ps)) (ha : RdStrs T3 W av [tn a, tn c]) => (show Calls Tryz.prog 17 #[rv, fv, .agg #[.string xway, av]] W (ProofNo 6 W) from by
      have := KPX.out W T T2 T3 rv fv av hr hf ha
      rw [net_why_not hok ham hcm hre] at this
      exact this.mono fun _ _ h => proof_no h))
    clear KPX hre hok HNA
    generalize hnl : netL m ps = nl at *
    generalize htb : closeN m m (tableE ps) = tb at *
    go_enter Tryz.func11, Tryz.ntmps11
    go_wp2_with (first
      | (go_at_call 41; have hh := HB1.out; clear hh; refine (KN.out _ HB1.out).mono ?_; rintro e w2 ⟨na, nc, rfl, hr2, hb2⟩; rw [hnl] at hr2; have HN2 := Lib.hid hr2; have HB2 := Lib.hid (HB1.out.trans (hb2.mono HB1.out.size)); clear hr2 hb2)
      | (go_at_call 40; refine (KA.out).mono ?_; rintro e w1 ⟨rfl, hb1⟩; have HB1 := Lib.hid hb1; clear hb1))
    rw [store_table (P := Tryz.prog) (Blk.new w2 90 #[.bool false, .bool false, .bool false, .bool false, .bool false, .bool false, .bool false, .bool false, .bool false, .bool false, .bool false, .bool false, .bool false, .bool false, .bool false, .bool false, .bool false, .bool false, .bool false, .bool false, .bool false, .bool false, .bool false, .bool false, .bool false, .bool false, .bool false, .bool false, .bool false, .bool false, .bool false, .bool false, .bool false, .bool false, .bool false, .bool false, .bool false, .bool false, .bool false, .bool false, .bool false, .bool false, .bool false, .bool false, .bool false, .bool false, .bool false, .bool false, .bool false, .bool false, .bool false, .bool false, .bool false, .bool false, .bool false, .bool false, .bool false, .bool false, .bool false, .bool false, .bool false, .bool false, .bool false, .bool false]) hct rfl (cellsOf_one tb), World.setRow_alloc_new]
    have HB3 := Lib.hid (HB2.out.alloc HB2.out.size (.cells (cellsOf tb) 90))
    have HN3 := Lib.hid (HN2.out.up ((Below.refl _ _).alloc (Nat.le_refl _) (.cells (cellsOf tb) 90)))
    have HK3 := Lib.hid (Blk.new w2 90 (cellsOf tb))
    clear HN2 HB2 HB1 KA KN hnl htb
    generalize w2.alloc (.cells (cellsOf tb) 90) = W3 at *
    generalize w2.heap.size = X at *
    have T3 := Lib.hid True.intro
    go_wp2_with (first
      | (go_at_call 17; have hh := HS6.out; clear hh; refine (KP.out _ _ _ _ _ _ _ HR6.out HN6.out HS6.out).mono ?_; rintro e w7 ⟨rfl, hb7⟩; have HB8 := Lib.hid ((HB6.out.trans (hb7.mono HB6.out.size)).alloc (HB6.out.trans (hb7.mono HB6.out.size)).size (.cells #[.string ⟨#[]⟩, .slice none 0 0, .int .i64 0, .slice none 0 0] 30)); have HK8 := Lib.hid ((HK6.out.below hb7 HK6.out.lt).alloc (.cells #[.string ⟨#[]⟩, .slice none 0 0, .int .i64 0, .slice none 0 0] 30)); have x0 := HK8.out.cell (a * 8 + c); rw [HXV.out] at x0; clear hb7)
      | (go_at_call 44; have hh := HR5.out; clear hh; refine (KW1.out _).mono ?_; rintro e w6 ⟨b6, rfl, -, hk6, hb6⟩; have HB6 := Lib.hid (HB5.out.trans (hb6.mono HB5.out.size)); have HR6 := Lib.hid (HR5.out.up hb6); have HN6 := Lib.hid (HN5.out.up hb6); have HK6 := Lib.hid (HK5.out.below hb6 HK5.out.lt); have HS6 := Lib.hid (RdStrs.litS (S := fun _ => True) (l := [tn a, tn c]) (n := 2) rfl hm2 trivial hk6); clear hk6 hb6)
      | (go_at_call 42; clear T3; refine (parseKnown (s := roadsText) (n := 3) (by rfl) (by decide) parse_roads _).mono ?_; rintro e w4 ⟨⟨pa, pc, rfl, hr4⟩, hb4⟩; have HR5 := Lib.hid (RdRules.up hr4 ((Below.refl _ _).alloc (Nat.le_refl _) (.cells #[.int .i64 0, .int .i64 0] 65))); have HB5 := Lib.hid ((HB3.out.trans (hb4.mono HB3.out.size)).alloc (HB3.out.trans (hb4.mono HB3.out.size)).size (.cells #[.int .i64 0, .int .i64 0] 65)); have HN5 := Lib.hid (RdFacts.up (HN3.out.up hb4) ((Below.refl _ _).alloc (Nat.le_refl _) (.cells #[.int .i64 0, .int .i64 0] 65))); have HK5 := Lib.hid ((HK3.out.below hb4 HK3.out.lt).alloc (.cells #[.int .i64 0, .int .i64 0] 65)); clear hr4 hb4))
    go_ret
    exact ⟨rfl, HB8.out⟩
  · rw [hre] at HXV
    obtain ⟨x, es, hpx, hw, hes, hlv⟩ := net_why hok ham hcm hre
    obtain ⟨nv, he1, he2, he3, he4, he5⟩ := net_enough2 hok ham hcm hw hes
    have KP := Lib.hid (fun W (T T2 T3 : Nat → Prop) rv fv av (hr : RdRules T W rv roadsP) (hf : RdFacts T2 W fv (netL m ps)) (ha : RdStrs T3 W av [tn a, tn c]) => (show Calls Tryz.prog 17 #[rv, fv, .agg #[.string xway, av]] W (ProofYes x W) from by
      have := KPX.out W T T2 T3 rv fv av hr hf ha
      rw [hpx] at this
      exact this.mono fun _ _ h => proof_yes h))
    obtain ⟨-, q1, q2, q3, -⟩ := prove_right (m := 62) strata_roads (l := netL m ps) (f := wayF a c) (x := x) (by rw [hpx]) (by omega)
    have hlv62 := hlv 62 (by omega)
    have htl : (es.map fun p => roadF p.1 p.2).length ≤ m := by rw [List.length_map]; exact hes
    have HTA := Lib.hid (roads_args (es := es))
    clear KPX hre hw hlv hok hpx hes
    generalize es.map (fun p => roadF p.1 p.2) = td at *
    have hti : (td.length : Int) ≤ (m : Int) := by omega
    have KC := Lib.hid (fun W (T T2 T3 T4 : Nat → Prop) rv fv av kv (hr : RdRules T W rv roadsP) (hf : RdFacts T2 W fv (netL m ps)) (ha : RdStrs T3 W av x.fact.args) (hk : RdProofs 61 T4 W kv x.kids) => (show Calls Tryz.prog 15 #[rv, fv, .agg #[.string x.fact.name, av, .int .i64 x.rule, kv]] W fun e w' => e = .returned (.int .i64 0) ∧ Below W.heap.size W w' from by
      have := checkCalls roadsP rv fv [0, 0, 1] (0, 0) (netL m ps) 61 x av kv W strata_roads hr hf ha hk q3 (Nat.le_trans q2 (by decide)) (by decide) small_roads names_roads (Nat.le_trans hNL (by decide)) HNA.out
      rwa [q1] at this))
    have KL := Lib.hid (fun B W av kv (hB : B ≤ W.heap.size) (ha : RdStrs (fun b => b < B) W av x.fact.args) (hk : RdProofs 61 (fun b => b < B) W kv x.kids) => (show Calls Tryz.prog 45 #[.agg #[.string x.fact.name, av, .int .i64 x.rule, kv]] W (LeavesPost B td W) from by
      have := leavesCalls B 61 x av kv W hB ha hk q3 (by rw [hlv62]; omega)
      rwa [hlv62] at this))
    have KO := Lib.hid (fun W (T : Nat → Prop) v (h : RdFacts T W v td) => (show Calls Tryz.prog 47 #[v] W fun e w' => (∃ a c, e = .returned (.slice a (ofF td).length c) ∧ RdFacts (New W) w' (.slice a (ofF td).length c) (ofF td)) ∧ Below W.heap.size W w' from
      ofNew rfl h (Nat.le_trans htl (by omega)) (fun z hz => Nat.le_trans (HTA.out z hz) (by decide))))
    have hol : (ofF td).length ≤ 1048576 := Nat.le_trans (nodup_le (nodup_rising (ofF_rising td)) fun z hz => (mem_ofF z _).1 hz) (by omega)
    have HOA := Lib.hid (fun (z : PFact) (hz : z ∈ ofF td) => HTA.out z ((mem_ofF z _).1 hz))
    have KV := Lib.hid (fun W (T T2 : Nat → Prop) rv fv (hr : RdRules T W rv roadsP) (hf : RdFacts T2 W fv (ofF td)) => (show Calls Tryz.prog 46 #[rv, fv] W fun e w' => (∃ a c, e = .returned (.tuple #[.slice a nv.length c, .int .i64 0]) ∧ RdFacts (fun _ => True) w' (.slice a nv.length c) nv) ∧ Below W.heap.size W w' from
      naiveKnown rfl strata_roads he1 hr hf (by decide) small_roads names_roads hol HOA.out))
    have KI := Lib.hid (fun W v av (h : RdFacts (fun _ => True) W v nv) (hg : RdStrs (fun _ => True) W av [tn a, tn c]) => (show Calls Tryz.prog 33 #[v, .agg #[.string xway, av]] W fun e w' => e = .returned (.bool true) ∧ Below W.heap.size W w' from
        (inFact v nv (wayF a c) av W h hg he3 (Nat.le_trans he4 (by decide)) (fun z hz => Nat.le_trans (he5 z hz) (by decide))).mono fun e w' ⟨he, hf⟩ => ⟨by rw [he, he2], hf.below⟩))
    clear q1 q2 q3 hlv62 HTA HOA hol he1 he2 he3 he4 he5 HNA
    generalize hnl : netL m ps = nl at *
    generalize htb : closeN m m (tableE ps) = tb at *
    go_enter Tryz.func11, Tryz.ntmps11
    go_wp2_with (first
      | (go_at_call 41; have hh := HB1.out; clear hh; refine (KN.out _ HB1.out).mono ?_; rintro e w2 ⟨na, nc, rfl, hr2, hb2⟩; rw [hnl] at hr2; have HN2 := Lib.hid hr2; have HB2 := Lib.hid (HB1.out.trans (hb2.mono HB1.out.size)); clear hr2 hb2)
      | (go_at_call 40; refine (KA.out).mono ?_; rintro e w1 ⟨rfl, hb1⟩; have HB1 := Lib.hid hb1; clear hb1))
    rw [store_table (P := Tryz.prog) (Blk.new w2 90 #[.bool false, .bool false, .bool false, .bool false, .bool false, .bool false, .bool false, .bool false, .bool false, .bool false, .bool false, .bool false, .bool false, .bool false, .bool false, .bool false, .bool false, .bool false, .bool false, .bool false, .bool false, .bool false, .bool false, .bool false, .bool false, .bool false, .bool false, .bool false, .bool false, .bool false, .bool false, .bool false, .bool false, .bool false, .bool false, .bool false, .bool false, .bool false, .bool false, .bool false, .bool false, .bool false, .bool false, .bool false, .bool false, .bool false, .bool false, .bool false, .bool false, .bool false, .bool false, .bool false, .bool false, .bool false, .bool false, .bool false, .bool false, .bool false, .bool false, .bool false, .bool false, .bool false, .bool false, .bool false]) hct rfl (cellsOf_one tb), World.setRow_alloc_new]
    have HB3 := Lib.hid (HB2.out.alloc HB2.out.size (.cells (cellsOf tb) 90))
    have HN3 := Lib.hid (HN2.out.up ((Below.refl _ _).alloc (Nat.le_refl _) (.cells (cellsOf tb) 90)))
    have HK3 := Lib.hid (Blk.new w2 90 (cellsOf tb))
    clear HN2 HB2 HB1 KA KN hnl htb
    generalize w2.alloc (.cells (cellsOf tb) 90) = W3 at *
    generalize w2.heap.size = X at *
    have T3 := Lib.hid True.intro
    go_wp2_with (first
      | (go_at_call 15; have hh := HB13.out; clear hh; refine (KC.out _ _ _ _ _ _ _ _ _ HR13.out HN13.out HS13.out HP13.out).mono ?_; rintro e w14 ⟨rfl, hb14⟩; have HB14 := Lib.hid (HB13.out.trans (hb14.mono HB13.out.size)); clear hb14)
      | (go_at_call 33; have hh := HS12.out; clear hh; refine (KI.out _ _ _ HV12.out HS12.out).mono ?_; rintro e w13 ⟨rfl, hb13⟩; have HB13 := Lib.hid (HB12.out.trans (hb13.mono HB12.out.size)); have HR13 := Lib.hid (HR12.out.up hb13); have HN13 := Lib.hid (HN12.out.up hb13); have HS13 := Lib.hid (RdSlice.agree RStr.steady (Below.agree hb13) HX12.out); have HP13 := Lib.hid (RdSlice.agree (RProofN.steady 61) (Below.agree hb13) HP12.out); have HK13 := Lib.hid (HK12.out.below hb13 HK12.out.lt); have r0 := HK13.out.cell 0; have r1 := HK13.out.cell 1; have r2 := HK13.out.cell 2; have r3 := HK13.out.cell 3; simp only [List.getElem?_toArray, List.getElem?_cons_zero, List.getElem?_cons_succ] at r0 r1 r2 r3; clear hb13)
      | (go_at_call 44; have hh := HV11.out; clear hh; refine (KW1.out _).mono ?_; rintro e w12 ⟨b12, rfl, -, hk12, hb12⟩; have HB12 := Lib.hid (HB11.out.trans (hb12.mono HB11.out.size)); have HR12 := Lib.hid (HR11.out.up hb12); have HN12 := Lib.hid (HN11.out.up hb12); have HX12 := Lib.hid (RdSlice.agree RStr.steady (Below.agree hb12) HX11.out); have HP12 := Lib.hid (RdSlice.agree (RProofN.steady 61) (Below.agree hb12) HP11.out); have HK12 := Lib.hid (HK11.out.below hb12 HK11.out.lt); have HV12 := Lib.hid (HV11.out.up hb12); have HS12 := Lib.hid (RdStrs.litS (S := fun _ => True) (l := [tn a, tn c]) (n := 2) rfl hm2 trivial hk12); clear hk12 hb12)
      | (go_at_call 46; have hh := HO10.out; clear hh; refine (KV.out _ _ _ _ _ HR10.out HO10.out).mono ?_; rintro e w11 ⟨⟨va, vc, rfl, hv11⟩, hb11⟩; have HB11 := Lib.hid (HB10.out.trans (hb11.mono HB10.out.size)); have HR11 := Lib.hid (HR10.out.up hb11); have HN11 := Lib.hid (HN10.out.up hb11); have HX11 := Lib.hid (RdSlice.agree RStr.steady (Below.agree hb11) HX10.out); have HP11 := Lib.hid (RdSlice.agree (RProofN.steady 61) (Below.agree hb11) HP10.out); have HK11 := Lib.hid (HK10.out.below hb11 HK10.out.lt); have HV11 := Lib.hid hv11; clear hv11 hb11)
      | (go_at_call 47; have hh := HT9.out; clear hh; refine (KO.out _ _ _ HT9.out).mono ?_; rintro e w10 ⟨⟨oa, oc, rfl, ho10⟩, hb10⟩; have HB10 := Lib.hid (HB9.out.trans (hb10.mono HB9.out.size)); have HR10 := Lib.hid (HR9.out.up hb10); have HN10 := Lib.hid (HN9.out.up hb10); have HX10 := Lib.hid (RdSlice.agree RStr.steady (Below.agree hb10) HX9.out); have HP10 := Lib.hid (RdSlice.agree (RProofN.steady 61) (Below.agree hb10) HP9.out); have HK10 := Lib.hid (HK9.out.below hb10 HK9.out.lt); have HO10 := Lib.hid ho10; clear ho10 hb10)
      | (go_at_call 45; have hh := HP8.out; clear hh; refine (KL.out _ _ _ _ HZ8.out HX8.out HP8.out).mono ?_; rintro e w9 ⟨⟨v9, rfl, ht9⟩, hb9⟩; obtain ⟨qa, qc, rfl, -, -, -⟩ := id ht9.form; have HB9 := Lib.hid (HB8.out.trans (hb9.mono HB8.out.size)); have HR9 := Lib.hid (HR8.out.up hb9); have HN9 := Lib.hid (HN8.out.up hb9); have HX9 := Lib.hid (RdSlice.agree RStr.steady (Below.agree hb9) HX8.out); have HP9 := Lib.hid (RdSlice.agree (RProofN.steady 61) (Below.agree hb9) HP8.out); have HK9 := Lib.hid (HKX8.out.below hb9 HKX8.out.lt); have HT9 := Lib.hid ht9; clear ht9 hb9)
      | (go_at_call 17; have hh := HS6.out; clear hh; refine (KP.out _ _ _ _ _ _ _ HR6.out HN6.out HS6.out).mono ?_; rintro e w7 ⟨aa, ac, ka, kc, rfl, hs7, hp7, hb7⟩; have HB8 := Lib.hid ((HB6.out.trans (hb7.mono HB6.out.size)).alloc (HB6.out.trans (hb7.mono HB6.out.size)).size (.cells #[.string x.fact.name, .slice aa x.fact.args.length ac, .int .i64 x.rule, .slice ka x.kids.length kc] 30)); have HK8 := Lib.hid ((HK6.out.below hb7 HK6.out.lt).alloc (.cells #[.string x.fact.name, .slice aa x.fact.args.length ac, .int .i64 x.rule, .slice ka x.kids.length kc] 30)); have HKX8 := Lib.hid (Blk.new w7 30 #[.string x.fact.name, .slice aa x.fact.args.length ac, .int .i64 x.rule, .slice ka x.kids.length kc]); have HR8 := Lib.hid ((HR6.out.up hb7).up ((Below.refl _ _).alloc (Nat.le_refl _) (.cells #[.string x.fact.name, .slice aa x.fact.args.length ac, .int .i64 x.rule, .slice ka x.kids.length kc] 30))); have HN8 := Lib.hid ((HN6.out.up hb7).up ((Below.refl _ _).alloc (Nat.le_refl _) (.cells #[.string x.fact.name, .slice aa x.fact.args.length ac, .int .i64 x.rule, .slice ka x.kids.length kc] 30))); have HX8 := Lib.hid (RdSlice.agree RStr.steady ((Agree.refl _ _).alloc (.cells #[.string x.fact.name, .slice aa x.fact.args.length ac, .int .i64 x.rule, .slice ka x.kids.length kc] 30)) hs7); have HP8 := Lib.hid (RdSlice.agree (RProofN.steady 61) ((Agree.refl _ _).alloc (.cells #[.string x.fact.name, .slice aa x.fact.args.length ac, .int .i64 x.rule, .slice ka x.kids.length kc] 30)) hp7); have HZ8 := Lib.hid (show w7.heap.size ≤ (w7.alloc (.cells #[.string x.fact.name, .slice aa x.fact.args.length ac, .int .i64 x.rule, .slice ka x.kids.length kc] 30)).heap.size by simp); have x0 := HK8.out.cell (a * 8 + c); rw [HXV.out] at x0; have p0 := HKX8.out.cell 0; have p1 := HKX8.out.cell 1; have p2 := HKX8.out.cell 2; have p3 := HKX8.out.cell 3; simp only [List.getElem?_toArray, List.getElem?_cons_zero, List.getElem?_cons_succ] at p0 p1 p2 p3; clear hs7 hp7 hb7)
      | (go_at_call 44; have hh := HR5.out; clear hh; refine (KW1.out _).mono ?_; rintro e w6 ⟨b6, rfl, -, hk6, hb6⟩; have HB6 := Lib.hid (HB5.out.trans (hb6.mono HB5.out.size)); have HR6 := Lib.hid (HR5.out.up hb6); have HN6 := Lib.hid (HN5.out.up hb6); have HK6 := Lib.hid (HK5.out.below hb6 HK5.out.lt); have HS6 := Lib.hid (RdStrs.litS (S := fun _ => True) (l := [tn a, tn c]) (n := 2) rfl hm2 trivial hk6); clear hk6 hb6)
      | (go_at_call 42; clear T3; refine (parseKnown (s := roadsText) (n := 3) (by rfl) (by decide) parse_roads _).mono ?_; rintro e w4 ⟨⟨pa, pc, rfl, hr4⟩, hb4⟩; have HR5 := Lib.hid (RdRules.up hr4 ((Below.refl _ _).alloc (Nat.le_refl _) (.cells #[.int .i64 0, .int .i64 0] 65))); have HB5 := Lib.hid ((HB3.out.trans (hb4.mono HB3.out.size)).alloc (HB3.out.trans (hb4.mono HB3.out.size)).size (.cells #[.int .i64 0, .int .i64 0] 65)); have HN5 := Lib.hid (RdFacts.up (HN3.out.up hb4) ((Below.refl _ _).alloc (Nat.le_refl _) (.cells #[.int .i64 0, .int .i64 0] 65))); have HK5 := Lib.hid ((HK3.out.below hb4 HK3.out.lt).alloc (.cells #[.int .i64 0, .int .i64 0] 65)); clear hr4 hb4))
    go_ret
    exact ⟨ret_bool (by simp), HB14.out⟩

namespace topWhy
theorem trodAll_five {H : Type} {enc : TypeId × Value → H} {P : Program} {w : World} {base : Nat} {spare : Nat → Bool} {held : Bool} {t t' t'' t3 t4 : TypeId} {args : Array Value} {ds : List (DataW H)} {ps : List MemPlace} (h : DataW.TrodAll enc P w base spare held [t, t', t'', t3, t4] args.toList ds ps) :
    ∃ v v' v'' v3 v4 d d' d'' d3 d4 p p' p'' p3 p4, args = #[v, v', v'', v3, v4] ∧ ds = [d, d', d'', d3, d4] ∧ ps = p ++ p' ++ p'' ++ p3 ++ p4 ∧ DataW.Trod enc P w base spare held t v d p ∧ DataW.Trod enc P w base spare held t' v' d' p' ∧ DataW.Trod enc P w base spare held t'' v'' d'' p'' ∧ DataW.Trod enc P w base spare held t3 v3 d3 p3 ∧ DataW.Trod enc P w base spare held t4 v4 d4 p4 := by
  obtain ⟨v, vs, d, ds', p, q, hargs, rfl, rfl, hd, hrest⟩ := trodAll_cons h
  obtain ⟨v', vs', d', ds'', p', q', rfl, rfl, rfl, hd', hrest'⟩ := trodAll_cons hrest
  obtain ⟨v'', vs'', d'', ds''', p'', q'', rfl, rfl, rfl, hd'', hrest''⟩ := trodAll_cons hrest'
  obtain ⟨v3, vs3, d3, ds3, p3, q3, rfl, rfl, rfl, hd3, hrest3⟩ := trodAll_cons hrest''
  obtain ⟨v4, vs4, d4, ds4, p4, q4, rfl, rfl, rfl, hd4, hrest4⟩ := trodAll_cons hrest3
  obtain ⟨rfl, rfl, rfl⟩ := trodAll_nil hrest4
  exact ⟨v, v', v'', v3, v4, d, d', d'', d3, d4, p, p', p'', p3, p4, by cases args; simp_all, rfl, by simp, hd, hd', hd'', hd3, hd4⟩
theorem own : ownKnob Tryz.prog.godebug = none := by kernel_rfl

set_option maxRecDepth 100000 in
theorem contract (H : Type) (enc : TypeId × Value → H) (W : World) (base : Nat) (args : Array Value) (ds gs : List (DataW H)) (before : List MemPlace)
    (hval : ∀ (j : Nat) t v, Tryz.f11.params[j]? = some t → args[j]? = some v → Value.okWide Tryz.prog W .any base t v)
    (hW : DataW.Whole enc Tryz.prog Tryz.f11.params.toList Rows.topWhySpec.vars false W args.toList ds gs before) (hk : Rows.uptoSmall H (ds ++ gs) = true) :
    Calls Tryz.prog 11 args W fun e W' => ∃ v, e = .returned v ∧ Rows.topWhySpec.post enc Tryz.prog Tryz.f11 false true false false W args v W' := by
  have hW' := hW
  obtain ⟨p, q, hA0, hV, rfl, hfz, hnd⟩ := hW
  have hA : DataW.TrodAll enc Tryz.prog W 0 (fun _ => true) true Tryz.f11.params.toList args.toList ds p := hA0
  rw [Tryz.params11] at hA hval
  obtain ⟨v0, v1, v2, v3, v4, d0, d1, d2, d3, d4, p0, p1, p2, p3, p4, rfl, rfl, rfl, h0, h1, h2, h3, h4⟩ := trodAll_five hA
  obtain ⟨rfl, rfl⟩ := trodVars_none hV
  obtain ⟨x0, rfl, s0⟩ := openInt.intArg Tryz.underlying3 (hval 0 3 v0 rfl rfl) h0
  obtain ⟨x1, r1, s1⟩ := openInt.sliceArg Tryz.underlying88 (hval 1 88 v1 rfl rfl) h1
  obtain ⟨x2, r2, s2⟩ := openInt.sliceArg Tryz.underlying88 (hval 2 88 v2 rfl rfl) h2
  obtain ⟨x3, rfl, s3⟩ := openInt.intArg Tryz.underlying3 (hval 3 3 v3 rfl rfl) h3
  obtain ⟨x4, rfl, s4⟩ := openInt.intArg Tryz.underlying3 (hval 4 3 v4 rfl rfl) h4
  rw [List.append_nil] at hk
  have hb : Rows.uptoBulkAll [d0, d1, d2, d3, d4] ≤ 1048576 := of_decide_eq_true hk
  simp only [Rows.uptoBulkAll] at hb
  have l1 := sizeL_le openInt.one x1
  have l2 := sizeL_le openInt.one x2
  refine (topWhyCalls x0 v1 v2 x1 x2 x3 x4 W r1 r2 (by omega) (by omega)).mono fun e W' ⟨he, hb'⟩ => ?_
  subst he
  exact ⟨_, rfl, law_post (tb := 4) hW' rfl rfl (by kernel_rfl) Tryz.underlying4 (by kernel_rfl) (by kernel_rfl) hb'⟩

set_option maxRecDepth 100000 in
theorem lifted (os : Os) (started : os.Started) (H : Type) (enc : TypeId × Value → H) (F : Stop.Interp) :
    ReturnsInHanded {} Tryz.checked os 11 .any ((Rows.OpenSpec.upto Rows.topWhySpec).pre6 enc Tryz.prog Tryz.f11 Rows.topWhyUptoRow.domain false) (((Rows.OpenSpec.upto Rows.topWhySpec).at F).post enc Tryz.prog Tryz.f11 false true false false) := by
  refine returnsInHanded_of_cond (C := Tryz.checked) (s := Rows.OpenSpec.upto Rows.topWhySpec) (k := Rows.uptoSmall) rfl own started (by kernel_rfl) Tryz.func11
    (OpenSpec.witness (enc := enc) (C := Tryz.checked) (s := Rows.OpenSpec.upto Rows.topWhySpec) (k := Rows.uptoSmall) rfl false ⟨#[], #[.int .i64 0, .slice none 0 0, .slice none 0 0, .int .i64 0, .int .i64 0], []⟩ 8 (by kernel_rfl) (by kernel_rfl) (by kernel_rfl)
      (x := ([.lit (.int .i64 0), .nil, .nil, .lit (.int .i64 0), .lit (.int .i64 0)], [], [])) (by kernel_rfl) rfl (by kernel_rfl)) ?_
  intro W base args ds gs before hval hW _ hk _
  exact contract H enc W base args ds gs before hval hW hk

theorem proved : Rows.TopWhyUptoSaid :=
  OpenClaim.holds_of_cond 11 Tryz.f11 rfl rfl rfl rfl rfl rfl rfl ⟨rfl, rfl, rfl, rfl, rfl⟩ rfl rfl rfl rfl rfl (by kernel_rfl) Tryz.func11 (by kernel_rfl)
    (of_decide_eq_true (by kernel_rfl)) (by unfold Func.isWrapper; first | (rw [if_pos (by decide +kernel)]; kernel_rfl) | (rw [if_neg (by decide +kernel)]; exact ⟨rfl, rfl⟩))
    (fun os started H enc _ F => lifted os started H enc F)
end topWhy

end Go.Proofs.YtgoaiohkodbadaaGreat
