/-
  THE WALK OF round.Wrong.
-/
import Derived.Test.YtiiicochdidolaaGreatPk8
import Derived.Test.YtiiicochdidolaaGreatPk18
namespace Go.Proofs.YtiiicochdidolaaGreat
open Go.RowKit
structure RunRd (w : World) (r : PRun) (kv nv : Value) : Prop where
  known : RdFacts (fun _ => True) w kv r.known
  new : RdFacts (fun _ => True) w nv r.new
theorem RunRd.up {w w' : World} {r : PRun} {kv nv : Value} (h : RunRd w r kv nv) (hb : Below w.heap.size w w') : RunRd w' r kv nv := ⟨h.known.up hb, h.new.up hb⟩
theorem RdFacts.newer {S : Nat → Prop} {w w' : World} {v : Value} {l : List PFact} (h : RdFacts S w' v l) (hs : ∀ b, S b → w.heap.size ≤ b) : RdFacts (New w) w' v l := h.more RFact.steady (fun b hb _ => hs b hb)
def RunPost (r : PRun × Int) (w : World) (e : Ending) (w' : World) : Prop :=
  Below w.heap.size w w' ∧ ∃ a c b d, e = .returned (.tuple #[.agg #[.slice a r.1.known.length c, .slice b r.1.new.length d, .int .i64 r.1.stratum, .int .i64 r.1.rounds, .bool r.1.done], .int .i64 r.2]) ∧ RdFacts (New w) w' (.slice a r.1.known.length c) r.1.known ∧ RdFacts (New w) w' (.slice b r.1.new.length d) r.1.new
theorem run_ret_err {r : PRun × Int} {n : Int} {w w' : World} (h : r = (zeroRun, n)) (hb : Below w.heap.size w w') : RunPost r w (.returned (.tuple #[.agg #[.slice none 0 0, .slice none 0 0, .int .i64 0, .int .i64 0, .bool false], .int .i64 n])) w' := by
  subst h; exact ⟨hb, none, 0, none, 0, rfl, RdFacts.nil, RdFacts.nil⟩
theorem run_ret_ok {r : PRun × Int} {k n : List PFact} {s x : Int} {dn : Bool} {w w' : World} {a b : Option Addr} {c d : Nat} (h : r = (⟨k, n, s, x, dn⟩, 0)) (hb : Below w.heap.size w w') (h1 : RdFacts (New w) w' (.slice a k.length c) k) (h2 : RdFacts (New w) w' (.slice b n.length d) n) :
    RunPost r w (.returned (.tuple #[.agg #[.slice a k.length c, .slice b n.length d, .int .i64 s, .int .i64 x, .bool dn], .int .i64 0])) w' := by
  subst h; exact ⟨hb, a, c, b, d, rfl, h1, h2⟩
structure RunSmall (r : PRun) : Prop where
  k1 : r.known.length ≤ 1048576
  k2 : ∀ x ∈ r.known, x.args.length ≤ 1048576
  n1 : r.new.length ≤ 1048576
  n2 : ∀ x ∈ r.new, x.args.length ≤ 1048576
theorem range_cases {k l : List PFact} {s x n : Int} {d : Bool} : (rangeBad ⟨k, l, s, x, d⟩ n = true ∧ (x < 0 ∨ ¬ x < 0 ∧ (1000 < x ∨ ¬ 1000 < x ∧ (s < 0 ∨ ¬ s < 0 ∧ (n < s ∨ ¬ n < s ∧ (n = s ∧ d = false ∨ (s == n) = false ∧ d = true)))))) ∨
    (rangeBad ⟨k, l, s, x, d⟩ n = false ∧ ¬ x < 0 ∧ ¬ 1000 < x ∧ ¬ s < 0 ∧ ¬ n < s ∧ (n = s ∧ d = true ∨ (s == n) = false ∧ d = false)) := by
  unfold rangeBad
  dsimp only
  by_cases h1 : x < 0
  · exact .inl ⟨by simp [h1], .inl h1⟩
  by_cases h2 : 1000 < x
  · exact .inl ⟨by simp [h2], .inr ⟨h1, .inl h2⟩⟩
  by_cases h3 : s < 0
  · exact .inl ⟨by simp [h3], .inr ⟨h1, .inr ⟨h2, .inl h3⟩⟩⟩
  by_cases h4 : n < s
  · exact .inl ⟨by simp [h4], .inr ⟨h1, .inr ⟨h2, .inr ⟨h3, .inl h4⟩⟩⟩⟩
  by_cases h5 : n = s
  · subst h5
    cases d
    · exact .inl ⟨by simp, .inr ⟨h1, .inr ⟨h2, .inr ⟨h3, .inr ⟨h4, .inl ⟨rfl, rfl⟩⟩⟩⟩⟩⟩
    · exact .inr ⟨by simp [h1, h2, h3], h1, h2, h3, h4, .inl ⟨rfl, rfl⟩⟩
  · have h6 : (s == n) = false := beq_eq_false_iff_ne.2 fun e => h5 e.symm
    cases d
    · exact .inr ⟨by simp [h1, h2, h3, h4, h6], h1, h2, h3, h4, .inr ⟨h6, rfl⟩⟩
    · exact .inl ⟨by simp [h6], .inr ⟨h1, .inr ⟨h2, .inr ⟨h3, .inr ⟨h4, .inr ⟨h6, rfl⟩⟩⟩⟩⟩⟩
theorem strataTold {S : Nat → Prop} {p : List PRule} {v : Value} {st : List Int} {q : Int × Int} {w : World} (hS : StrataIs p st q) (h : RdRules S w v p) (n1 : p.length ≤ 1048576) (n2 : ∀ r ∈ p, RuleSmall r) (n3 : ∀ r ∈ p, NameSmall r) :
    Calls Tryz.prog 74 #[v] w fun e w' => Below w.heap.size w w' ∧ ∃ a c, e = .returned (.tuple #[.slice a st.length c, .agg #[.int .i64 q.1, .int .i64 q.2]]) ∧ RdInts (fun _ => True) w' (.slice a st.length c) st :=
  (strataCalls p v w h n1 n2 n3).mono fun e w' ⟨hb, v', l', q', he, hr, hs⟩ => by
    obtain ⟨rfl, rfl⟩ := hs.unique hS
    obtain ⟨a, c, rfl, -, -, -⟩ := id hr.form
    exact ⟨hb, a, c, he, hr.more RInt.steady (fun _ _ _ => trivial)⟩
theorem ownReads {S : Nat → Prop} {v : Value} {l : List PFact} {w : World} (h : RdFacts S w v l) (n1 : l.length ≤ 1048576) (n2 : ∀ x ∈ l, x.args.length ≤ 1048576) :
    Calls Tryz.prog 65 #[v] w fun e w' => (∃ a c, e = .returned (.slice a l.length c) ∧ RdFacts (New w) w' (.slice a l.length c) l) ∧ Below w.heap.size w w' :=
  (ownCalls v l w h (by omega) (fun x hx => by have := n2 x hx; omega)).mono fun e w' ⟨⟨v', he, ho⟩, hb⟩ => by
    have h' := (ho.read RFact.steady).more RFact.steady (S' := New w) (fun b hb _ => hb.elim id id)
    obtain ⟨a, c, rfl, -, -, -⟩ := id h'.form
    exact ⟨⟨a, c, he, h'⟩, hb⟩
theorem RdFacts.set_far {S : Nat → Prop} {w : World} {v : Value} {l : List PFact} (h : RdFacts S w v l) {p : Addr} (hp : ¬ S p.block) (u : Value) : RdFacts S (w.setCell p u) v l :=
  h.agree RFact.steady ⟨by simp [World.setCell], fun b hb _ => Below.heap_setCell _ _ _ _ (fun e => hp (by rw [← e]; exact hb))⟩
theorem RdFacts.new {w W W' : World} {v : Value} {l : List PFact} (h : RdFacts (New W) W' v l) (hw : w.heap.size ≤ W.heap.size) : RdFacts (New w) W' v l := h.more RFact.steady (fun _ hb _ => Nat.le_trans hw hb)
theorem RdFacts.any {S : Nat → Prop} {w : World} {v : Value} {l : List PFact} (h : RdFacts S w v l) : RdFacts (fun _ => True) w v l := h.more RFact.steady (fun _ _ _ => trivial)
set_option maxRecDepth 100000 in
set_option maxHeartbeats 8000000 in
theorem runWrongCalls {S : Nat → Prop} (p : List PRule) (v : Value) (st : List Int) (q : Int × Int) (r : PRun) (kv nv : Value) (w : World) (hS : StrataIs p st q) (h : RdRules S w v p) (hr : RunRd w r kv nv)
    (n1 : p.length ≤ 1048576) (n2 : ∀ r ∈ p, RuleSmall r) (n3 : ∀ r ∈ p, NameSmall r) (ns : RunSmall r) :
    Calls Tryz.prog 43 #[v, .agg #[kv, nv, .int .i64 r.stratum, .int .i64 r.rounds, .bool r.done]] w fun e w' => e = .returned (.int .i64 (runBad st q.1 p r)) ∧ Below w.heap.size w w' := by
  obtain ⟨a, c, rfl, -, -, -⟩ := id h.form
  obtain ⟨ka, kc, rfl, -, -, -⟩ := id hr.known.form
  obtain ⟨na, nc, rfl, -, -, -⟩ := id hr.new.form
  obtain ⟨W0, hW0⟩ : ∃ W0 : World, w.alloc (.cells #[.slice ka r.known.length kc, .slice na r.new.length nc, .int .i64 r.stratum, .int .i64 r.rounds, .bool r.done] 28) = W0 := ⟨_, rfl⟩
  have hb0 : Below w.heap.size w W0 := by subst hW0; exact (Below.refl _ _).alloc (Nat.le_refl _) _
  have hk0 : Blk W0 w.heap.size 28 #[.slice ka r.known.length kc, .slice na r.new.length nc, .int .i64 r.stratum, .int .i64 r.rounds, .bool r.done] := by subst hW0; exact Blk.new w _ _
  have HB0 := Lib.hid hb0
  have HK0 := Lib.hid hk0
  have H := Lib.hid h
  have HR := Lib.hid hr
  have N2 := Lib.hid n2
  have N3 := Lib.hid n3
  have NS := Lib.hid ns
  have HS := Lib.hid hS
  have KS := Lib.hid (strataTold hS (h.up hb0) n1 n2 n3)
  clear h hr n2 n3 ns hb0 hk0 hS
  obtain ⟨q1, q2⟩ := q
  dsimp only at *
  by_cases hq : q1 = 0
  case neg =>
    have g1 : (q1 != 0) = true := by simpa using hq
    have HE := Lib.hid (run_bad1 (st := st) (p := p) (r := r) hq)
    clear hq
    go_enter Tryz.func43, Tryz.ntmps43
    go_wp2_with (go_at_call 74; refine (KS.out).mono ?_; rintro e w1 ⟨hb1, a1, c1, rfl, hr1⟩; have HB1 := Lib.hid (HB0.out.trans (hb1.mono (Below.size HB0.out))); clear hb1 hr1)
    go_ret
    exact ⟨ret_int HE.out.symm, HB1.out.alloc (Below.size HB1.out) _⟩
  obtain ⟨hsl, h16, h5, hz16, -, -⟩ := strata_bd HS.out hq
  have HZ := Lib.hid hz16
  have H5 := Lib.hid h5
  have HSL := Lib.hid hsl
  clear h5 hz16 hsl
  subst hq
  have KF := Lib.hid (fun W (hW : Below w.heap.size w W) => factsCalls p (.slice a p.length c) (.slice ka r.known.length kc) r.known W (H.out.up hW) (HR.out.known.up hW) h16 H5.out N2.out N3.out NS.out.k1 NS.out.k2)
  have KT := Lib.hid (fun W (hW : Below w.heap.size w W) => setCalls (.slice na r.new.length nc) r.new W (HR.out.new.up hW) (by have := NS.out.n1; omega) (fun x hx => by have := NS.out.n2 x hx; omega))
  by_cases hf : (factsBad p r.known).1 = 0
  case neg =>
    have g2 : ((factsBad p r.known).1 != 0) = true := by simpa using hf
    have HE := Lib.hid (run_bad2 (st := st) hf)
    clear hf
    generalize factsBad p r.known = f at *
    obtain ⟨f1, f2⟩ := f
    dsimp only at *
    go_enter Tryz.func43, Tryz.ntmps43
    go_wp2_with (first
      | (go_at_call 75; have hh := HB1.out; clear hh; refine (KF.out _ HB1.out).mono ?_; rintro e w2 ⟨rfl, hb2⟩; have HB2 := Lib.hid (HB1.out.trans (hb2.mono (Below.size HB1.out))); clear hb2)
      | (go_at_call 74; refine (KS.out).mono ?_; rintro e w1 ⟨hb1, a1, c1, rfl, hr1⟩; have HB1 := Lib.hid ((HB0.out.trans (hb1.mono (Below.size HB0.out))).alloc (Nat.le_trans (Below.size HB0.out) hb1.size) (.cells #[.int .i64 0, .int .i64 q2] 49)); have HK1 := Lib.hid ((HK0.out.below hb1 HK0.out.lt).alloc (.cells #[.int .i64 0, .int .i64 q2] 49)); have c0 := HK1.out.cell 0; simp only [List.getElem?_toArray, List.getElem?_cons_zero] at c0; clear hb1 hr1))
    go_ret
    exact ⟨ret_int HE.out.symm, HB2.out.alloc (Below.size HB2.out) _⟩
  have HGK := Lib.hid (good_of (factsBad_set hf))
  rw [hf] at KF
  generalize hf2 : (factsBad p r.known).2 = f2 at *
  clear hf2
  by_cases hs : (setF r.new).1 = 0
  case neg =>
    have g3 : ((setF r.new).1 != 0) = true := by simpa using hs
    have HE := Lib.hid (run_bad3 (st := st) hf hs)
    clear hf hs
    generalize setF r.new = f at *
    obtain ⟨s1, s2⟩ := f
    dsimp only at *
    go_enter Tryz.func43, Tryz.ntmps43
    go_wp2_with (first
      | (go_at_call 55; have hh := HB2.out; clear hh; refine (KT.out _ HB2.out).mono ?_; rintro e w3 ⟨rfl, hb3⟩; have HB3 := Lib.hid (HB2.out.trans (hb3.mono (Below.size HB2.out))); clear hb3)
      | (go_at_call 75; have hh := HB1.out; clear hh; refine (KF.out _ HB1.out).mono ?_; rintro e w2 ⟨rfl, hb2⟩; have HB2 := Lib.hid ((HB1.out.trans (hb2.mono (Below.size HB1.out))).alloc (Nat.le_trans (Below.size HB1.out) hb2.size) (.cells #[.int .i64 0, .int .i64 f2] 49)); have HK2 := Lib.hid ((HK1.out.below hb2 HK1.out.lt).alloc (.cells #[.int .i64 0, .int .i64 f2] 49)); have d1 := HK2.out.cell 1; simp only [List.getElem?_toArray, List.getElem?_cons_zero, List.getElem?_cons_succ] at d1; clear hb2 c0)
      | (go_at_call 74; refine (KS.out).mono ?_; rintro e w1 ⟨hb1, a1, c1, rfl, hr1⟩; have HB1 := Lib.hid ((HB0.out.trans (hb1.mono (Below.size HB0.out))).alloc (Nat.le_trans (Below.size HB0.out) hb1.size) (.cells #[.int .i64 0, .int .i64 q2] 49)); have HK1 := Lib.hid ((HK0.out.below hb1 HK0.out.lt).alloc (.cells #[.int .i64 0, .int .i64 q2] 49)); have c0 := HK1.out.cell 0; simp only [List.getElem?_toArray, List.getElem?_cons_zero] at c0; clear hb1 hr1))
    go_ret
    exact ⟨ret_int HE.out.symm, HB3.out.alloc (Below.size HB3.out) _⟩
  have HGN := Lib.hid (good_of hs)
  have hsz : setF r.new = (0, 0) := (good_of hs).set
  rw [hsz] at KT
  have HE := Lib.hid (run_bad4 (st := st) hf hs)
  have KC := Lib.hid (fun W sv (h1 : RdInts (fun _ => True) W sv st) => countCalls sv st W h1 (by rw [HSL.out]; omega) (fun z hz => by have := HZ.out z hz; omega))
  have KL := Lib.hid (fun W (hW : Below w.heap.size w W) => lessReads (HR.out.new.up hW) (HR.out.known.up hW) HGK.out.rise NS.out.n1 NS.out.n2 NS.out.k1 NS.out.k2)
  clear hf hs hsz
  generalize countP st = cn at *
  obtain ⟨rk, rn, rs, rr, rd⟩ := r
  dsimp only at *
  rcases range_cases (k := rk) (l := rn) (s := rs) (x := rr) (n := cn) (d := rd) with ⟨hx, hc⟩ | ⟨hx, h1, h2, h3, h4, hc⟩
  · rw [hx, if_pos rfl] at HE
    clear hx
    rcases hc with h1 | ⟨h1, h2 | ⟨h2, h3 | ⟨h3, h4 | ⟨h4, ⟨rfl, rfl⟩ | ⟨h5, rfl⟩⟩⟩⟩⟩
    all_goals
      clear KL
      go_enter Tryz.func43, Tryz.ntmps43
      go_wp2_with (first
        | (go_at_call 76; have hh := HB3.out; clear hh; refine (KC.out _ _ HI3.out).mono ?_; rintro e w4 ⟨rfl, rfl⟩; have HB4 := HB3)
        | (go_at_call 55; have hh := HB2.out; clear hh; refine (KT.out _ HB2.out).mono ?_; rintro e w3 ⟨rfl, hb3⟩; have HB3 := Lib.hid ((HB2.out.trans (hb3.mono (Below.size HB2.out))).alloc (Nat.le_trans (Below.size HB2.out) hb3.size) (.cells #[.int .i64 0, .int .i64 0] 49)); have HI3 := Lib.hid (HI2.out.up (hb3.alloc hb3.size (.cells #[.int .i64 0, .int .i64 0] 49))); have HK3 := Lib.hid ((HK2.out.below hb3 HK2.out.lt).alloc (.cells #[.int .i64 0, .int .i64 0] 49)); have k0 := HK3.out.cell 0; have k1 := HK3.out.cell 1; have k2 := HK3.out.cell 2; have k3 := HK3.out.cell 3; have k4 := HK3.out.cell 4; simp only [List.getElem?_toArray, List.getElem?_cons_zero, List.getElem?_cons_succ] at k0 k1 k2 k3 k4; clear hb3 d1)
        | (go_at_call 75; have hh := HB1.out; clear hh; refine (KF.out _ HB1.out).mono ?_; rintro e w2 ⟨rfl, hb2⟩; have HB2 := Lib.hid ((HB1.out.trans (hb2.mono (Below.size HB1.out))).alloc (Nat.le_trans (Below.size HB1.out) hb2.size) (.cells #[.int .i64 0, .int .i64 f2] 49)); have HI2 := Lib.hid (HI1.out.up (hb2.alloc hb2.size (.cells #[.int .i64 0, .int .i64 f2] 49))); have HK2 := Lib.hid ((HK1.out.below hb2 HK1.out.lt).alloc (.cells #[.int .i64 0, .int .i64 f2] 49)); have d1 := HK2.out.cell 1; simp only [List.getElem?_toArray, List.getElem?_cons_zero, List.getElem?_cons_succ] at d1; clear hb2 c0)
        | (go_at_call 74; refine (KS.out).mono ?_; rintro e w1 ⟨hb1, a1, c1, rfl, hr1⟩; have HB1 := Lib.hid ((HB0.out.trans (hb1.mono (Below.size HB0.out))).alloc (Nat.le_trans (Below.size HB0.out) hb1.size) (.cells #[.int .i64 0, .int .i64 q2] 49)); have HI1 := Lib.hid (hr1.up ((Below.refl _ _).alloc (Nat.le_refl _) (.cells #[.int .i64 0, .int .i64 q2] 49))); have HK1 := Lib.hid ((HK0.out.below hb1 HK0.out.lt).alloc (.cells #[.int .i64 0, .int .i64 q2] 49)); have c0 := HK1.out.cell 0; simp only [List.getElem?_toArray, List.getElem?_cons_zero] at c0; clear hb1 hr1))
      go_ret
      exact ⟨ret_int HE.out.symm, HB4.out⟩
  · rw [hx, if_neg (by simp)] at HE
    clear hx
    rcases hc with ⟨rfl, rfl⟩ | ⟨h5, rfl⟩
    all_goals
      by_cases hl : lessF rn rk = []
      · rw [if_neg (by simpa using hl)] at HE
        rw [hl] at KL
        clear hl
        go_enter Tryz.func43, Tryz.ntmps43
        go_wp2_with (first
          | (go_at_call 14; have hh := HB4.out; clear hh; refine (KL.out _ HB4.out).mono ?_; rintro e w5 ⟨⟨a5, c5, rfl, -⟩, hb5⟩; have HB5 := Lib.hid (HB4.out.trans (hb5.mono (Below.size HB4.out))); clear hb5)
          | (go_at_call 76; have hh := HB3.out; clear hh; refine (KC.out _ _ HI3.out).mono ?_; rintro e w4 ⟨rfl, rfl⟩; have HB4 := HB3)
          | (go_at_call 55; have hh := HB2.out; clear hh; refine (KT.out _ HB2.out).mono ?_; rintro e w3 ⟨rfl, hb3⟩; have HB3 := Lib.hid ((HB2.out.trans (hb3.mono (Below.size HB2.out))).alloc (Nat.le_trans (Below.size HB2.out) hb3.size) (.cells #[.int .i64 0, .int .i64 0] 49)); have HI3 := Lib.hid (HI2.out.up (hb3.alloc hb3.size (.cells #[.int .i64 0, .int .i64 0] 49))); have HK3 := Lib.hid ((HK2.out.below hb3 HK2.out.lt).alloc (.cells #[.int .i64 0, .int .i64 0] 49)); have k0 := HK3.out.cell 0; have k1 := HK3.out.cell 1; have k2 := HK3.out.cell 2; have k3 := HK3.out.cell 3; have k4 := HK3.out.cell 4; simp only [List.getElem?_toArray, List.getElem?_cons_zero, List.getElem?_cons_succ] at k0 k1 k2 k3 k4; clear hb3 d1)
          | (go_at_call 75; have hh := HB1.out; clear hh; refine (KF.out _ HB1.out).mono ?_; rintro e w2 ⟨rfl, hb2⟩; have HB2 := Lib.hid ((HB1.out.trans (hb2.mono (Below.size HB1.out))).alloc (Nat.le_trans (Below.size HB1.out) hb2.size) (.cells #[.int .i64 0, .int .i64 f2] 49)); have HI2 := Lib.hid (HI1.out.up (hb2.alloc hb2.size (.cells #[.int .i64 0, .int .i64 f2] 49))); have HK2 := Lib.hid ((HK1.out.below hb2 HK1.out.lt).alloc (.cells #[.int .i64 0, .int .i64 f2] 49)); have d1 := HK2.out.cell 1; simp only [List.getElem?_toArray, List.getElem?_cons_zero, List.getElem?_cons_succ] at d1; clear hb2 c0)
          | (go_at_call 74; refine (KS.out).mono ?_; rintro e w1 ⟨hb1, a1, c1, rfl, hr1⟩; have HB1 := Lib.hid ((HB0.out.trans (hb1.mono (Below.size HB0.out))).alloc (Nat.le_trans (Below.size HB0.out) hb1.size) (.cells #[.int .i64 0, .int .i64 q2] 49)); have HI1 := Lib.hid (hr1.up ((Below.refl _ _).alloc (Nat.le_refl _) (.cells #[.int .i64 0, .int .i64 q2] 49))); have HK1 := Lib.hid ((HK0.out.below hb1 HK0.out.lt).alloc (.cells #[.int .i64 0, .int .i64 q2] 49)); have c0 := HK1.out.cell 0; simp only [List.getElem?_toArray, List.getElem?_cons_zero] at c0; clear hb1 hr1))
        go_ret
        exact ⟨ret_int HE.out.symm, HB5.out⟩
      · rw [if_pos hl] at HE
        have hlp : (0 : Int) < ((lessF rn rk).length : Int) := by have := List.length_pos_iff.2 hl; omega
        clear hl
        generalize (lessF rn rk).length = ll at *
        go_enter Tryz.func43, Tryz.ntmps43
        go_wp2_with (first
          | (go_at_call 14; have hh := HB4.out; clear hh; refine (KL.out _ HB4.out).mono ?_; rintro e w5 ⟨⟨a5, c5, rfl, -⟩, hb5⟩; have HB5 := Lib.hid (HB4.out.trans (hb5.mono (Below.size HB4.out))); clear hb5)
          | (go_at_call 76; have hh := HB3.out; clear hh; refine (KC.out _ _ HI3.out).mono ?_; rintro e w4 ⟨rfl, rfl⟩; have HB4 := HB3)
          | (go_at_call 55; have hh := HB2.out; clear hh; refine (KT.out _ HB2.out).mono ?_; rintro e w3 ⟨rfl, hb3⟩; have HB3 := Lib.hid ((HB2.out.trans (hb3.mono (Below.size HB2.out))).alloc (Nat.le_trans (Below.size HB2.out) hb3.size) (.cells #[.int .i64 0, .int .i64 0] 49)); have HI3 := Lib.hid (HI2.out.up (hb3.alloc hb3.size (.cells #[.int .i64 0, .int .i64 0] 49))); have HK3 := Lib.hid ((HK2.out.below hb3 HK2.out.lt).alloc (.cells #[.int .i64 0, .int .i64 0] 49)); have k0 := HK3.out.cell 0; have k1 := HK3.out.cell 1; have k2 := HK3.out.cell 2; have k3 := HK3.out.cell 3; have k4 := HK3.out.cell 4; simp only [List.getElem?_toArray, List.getElem?_cons_zero, List.getElem?_cons_succ] at k0 k1 k2 k3 k4; clear hb3 d1)
          | (go_at_call 75; have hh := HB1.out; clear hh; refine (KF.out _ HB1.out).mono ?_; rintro e w2 ⟨rfl, hb2⟩; have HB2 := Lib.hid ((HB1.out.trans (hb2.mono (Below.size HB1.out))).alloc (Nat.le_trans (Below.size HB1.out) hb2.size) (.cells #[.int .i64 0, .int .i64 f2] 49)); have HI2 := Lib.hid (HI1.out.up (hb2.alloc hb2.size (.cells #[.int .i64 0, .int .i64 f2] 49))); have HK2 := Lib.hid ((HK1.out.below hb2 HK1.out.lt).alloc (.cells #[.int .i64 0, .int .i64 f2] 49)); have d1 := HK2.out.cell 1; simp only [List.getElem?_toArray, List.getElem?_cons_zero, List.getElem?_cons_succ] at d1; clear hb2 c0)
          | (go_at_call 74; refine (KS.out).mono ?_; rintro e w1 ⟨hb1, a1, c1, rfl, hr1⟩; have HB1 := Lib.hid ((HB0.out.trans (hb1.mono (Below.size HB0.out))).alloc (Nat.le_trans (Below.size HB0.out) hb1.size) (.cells #[.int .i64 0, .int .i64 q2] 49)); have HI1 := Lib.hid (hr1.up ((Below.refl _ _).alloc (Nat.le_refl _) (.cells #[.int .i64 0, .int .i64 q2] 49))); have HK1 := Lib.hid ((HK0.out.below hb1 HK0.out.lt).alloc (.cells #[.int .i64 0, .int .i64 q2] 49)); have c0 := HK1.out.cell 0; simp only [List.getElem?_toArray, List.getElem?_cons_zero] at c0; clear hb1 hr1))
        go_ret
        exact ⟨ret_int HE.out.symm, HB5.out⟩
end Go.Proofs.YtiiicochdidolaaGreat
