/-
  corolaw7.ProofAll ALWAYS ANSWERS TRUE: each fact that follows has a proof with which nothing is wrong, if that is not too great; one that does not has none. For any arguments of ordinary size; without conditions.
-/
import Derived.Test.YtoffggiaecclmaaGreatPk16
import Derived.Test.YtoffggiaecclmaaGreatPk20
import Derived.Test.YtoffggiaecclmaaGreatChecked
namespace Go.Proofs.YtoffggiaecclmaaGreat
open Go.RowKit Go.ChangeShapes Go.WideShapes Go.Deep

theorem rd_none {α : Type} {k : Nat} {R : Reader α} {S : Nat → Prop} {w : World} : RdSlice k R S w (.slice none 0 0) ([] : List α) := ⟨none, 0, rfl, Nat.le_refl _, Nat.zero_le _, fun _ => rfl, fun i x h => by simp at h⟩
theorem zeroSame (w : World) : Calls Tryz.prog 11 #[.agg #[.string ⟨#[]⟩, .slice none 0 0, .int .i64 0, .slice none 0 0], .agg #[.string ⟨#[]⟩, .slice none 0 0, .int .i64 0, .slice none 0 0]] w fun e w' => e = .returned (.bool true) ∧ Below w.heap.size w w' :=
  sameProofRef 0 (S := fun _ => True) (S2 := fun _ => True) (T := fun _ => True) (T2 := fun _ => True) (.mk ⟨⟨#[]⟩, []⟩ 0 []) (.slice none 0 0) (.slice none 0 0) (.slice none 0 0) (.slice none 0 0) w rd_none rd_none rd_none rd_none ⟨Nat.zero_le _, Nat.zero_le _, fun k hk => by cases hk⟩

set_option maxRecDepth 100000 in
set_option maxHeartbeats 8000000 in
theorem proofAllCalls {S S3 S4 : Nat → Prop} (p : List PRule) (v fv : Value) (l : List PFact) (f : PFact) (av : Value) (w : World) (h : RdRules S w v p) (hf : RdFacts S3 w fv l) (ha : RdStrs S4 w av f.args)
    (n1 : p.length ≤ 1048576) (n2 : ∀ r ∈ p, RuleSmall r) (n3 : ∀ r ∈ p, NameSmall r) (n4 : l.length ≤ 1048576) (n5 : ∀ x ∈ l, x.args.length ≤ 1048576) (n6 : f.args.length ≤ 1048576) :
    Calls Tryz.prog 4 #[v, fv, .agg #[.string f.name, av]] w fun e w' => e = .returned (.bool true) ∧ Below w.heap.size w w' := by
  obtain ⟨a, c, rfl, -, -, -⟩ := id h.form
  obtain ⟨fa, fc, rfl, -, -, -⟩ := id hf.form
  obtain ⟨aa, ac, rfl, -, -, -⟩ := id ha.form
  obtain ⟨st, q, hS⟩ := exists_strata p
  obtain ⟨W0, hW0⟩ : ∃ W0 : World, w.alloc (.cells #[.string f.name, .slice aa f.args.length ac] 27) = W0 := ⟨_, rfl⟩
  have HB0 := Lib.hid (show Below w.heap.size w W0 by subst hW0; exact (Below.refl _ _).alloc (Nat.le_refl _) _)
  have HK0 := Lib.hid (show Blk W0 w.heap.size 27 #[.string f.name, .slice aa f.args.length ac] by subst hW0; exact Blk.new w _ _)
  have KA := Lib.hid (alive7Calls W0)
  have KN := Lib.hid (fun W (hW : Below w.heap.size w W) => naiveReads p (.slice a p.length c) (.slice fa l.length fc) st q l W hS (h.up hW) (RdFacts.up hf hW) n1 n2 n3 n4 n5)
  have KP := Lib.hid (fun W (hW : Below w.heap.size w W) => proveCalls p (.slice a p.length c) (.slice fa l.length fc) st q l f (.slice aa f.args.length ac) W hS (h.up hW) (RdFacts.up hf hW) (ha.up hW) n1 n2 n3 n4 n5 n6)
  have KC := Lib.hid (fun (x : PProof) (av kv : Value) (Sa Sk : Nat → Prop) W (hW : Below w.heap.size w W) (hxa : RdStrs Sa W av x.fact.args) (hxk : RdProofs 61 Sk W kv x.kids) (hs : smallN 62 x) (hc : cntN 62 x ≤ 1048576) => checkCalls p (.slice a p.length c) (.slice fa l.length fc) st q l 61 x av kv W hS (h.up hW) (RdFacts.up hf hW) hxa hxk hs hc n1 n2 n3 n4 n5)
  have HA := Lib.hid ha
  have HFO := Lib.hid (naive_follows hS (l := l))
  have E1 := Lib.hid (prove_not (st := st) (q := q.1) (p := p) (l := l) (f := f))
  have E2 := Lib.hid (fun (hn : (naiveP st q.1 p l).2 = 0) hw => prove_err (st := st) (q := q.1) (p := p) (l := l) (f := f) hn hw)
  have E3 := Lib.hid (fun x (hx : (proveP st q.1 p l f).1 = some x) => prove_right (m := 62) hS hx (by decide))
  clear h hf ha n2 n3 n5 hS
  generalize checkN st q.1 p l 62 = cx at *
  generalize proveP st q.1 p l f = y at *
  generalize naiveP st q.1 p l = z at *
  obtain ⟨m, e0⟩ := z
  obtain ⟨yo, ye⟩ := y
  dsimp only at *
  by_cases he : e0 = 0
  case neg =>
    have g1 : (e0 != 0) = true := by simpa using he
    clear he HFO E1 E2 E3 KP KC
    go_enter Tryz.func4, Tryz.ntmps4
    go_wp2_with (first
      | (go_at_call 8; have hh := HB1.out; clear hh; refine (KN.out _ HB1.out).mono ?_; rintro e w3 ⟨⟨a3, c3, rfl, hr3⟩, hb3⟩; have HB3 := Lib.hid (HB1.out.trans (hb3.mono HB1.out.size)); clear hr3 hb3)
      | (go_at_call 6; refine (KA.out).mono ?_; rintro e w1 ⟨rfl, hb1⟩; have HB1 := Lib.hid (HB0.out.trans (hb1.mono HB0.out.size)); clear hb1))
    go_ret
    exact ⟨rfl, HB3.out⟩
  subst he
  obtain ⟨hF, -, -⟩ := HFO.out rfl
  have HFL := Lib.hid hF
  have KI := Lib.hid (fun (S : Nat → Prop) W mv (hr : RdFacts S W mv m) (hW : Below w.heap.size w W) => inFact mv m f (.slice aa f.args.length ac) W hr (HA.out.up hW) HFL.out.rise (Nat.le_trans HFL.out.len (by decide)) (fun z hz => by have := (wrongF_zero.1 (HFL.out.good z hz)).2.1; omega))
  clear hF HFO
  by_cases hme : memF f m = true
  case neg =>
    have hme' : memF f m = false := by simpa using hme
    obtain ⟨e1, e2⟩ := E1.out rfl hme'
    subst e1
    have g2 : (ye != 0) = true := by simpa using e2
    have HY := Lib.hid e2
    rw [hme'] at KI
    clear hme hme' E1 E2 E3 e2
    go_enter Tryz.func4, Tryz.ntmps4
    go_wp2_with (first
      | (go_at_call 11; have hh := HB5.out; clear hh; refine (zeroSame _).mono ?_; rintro e w6 ⟨rfl, hb6⟩; have HB6 := Lib.hid (HB5.out.trans (hb6.mono HB5.out.size)); clear hb6)
      | (go_at_call 9; have hh := HB4.out; clear hh; refine (KI.out _ _ _ HM4.out HB4.out).mono ?_; rintro e w5 ⟨rfl, hf5⟩; have HB5 := Lib.hid (HB4.out.trans (hf5.below.mono HB4.out.size)); have HX5 := Lib.hid (HX4.out.below hf5.below HX4.out.lt); have x0 := HX5.out.cell 0; have x1 := HX5.out.cell 1; have x2 := HX5.out.cell 2; have x3 := HX5.out.cell 3; simp only [List.getElem?_toArray, List.getElem?_cons_zero, List.getElem?_cons_succ] at x0 x1 x2 x3; clear hf5)
      | (go_at_call 10; have hh := HB3.out; clear hh; refine (KP.out _ HB3.out).mono ?_; rintro e w4 ⟨hb4, rfl⟩; have HB4 := Lib.hid ((HB3.out.trans (hb4.mono HB3.out.size)).alloc (HB3.out.trans (hb4.mono HB3.out.size)).size (.cells #[.string ⟨#[]⟩, .slice none 0 0, .int .i64 0, .slice none 0 0] 30)); have HX4 := Lib.hid (Blk.new w4 30 #[.string ⟨#[]⟩, .slice none 0 0, .int .i64 0, .slice none 0 0]); have HM4 := Lib.hid ((RdFacts.up HM3.out hb4).agree RFact.steady ((Agree.refl _ _).alloc (.cells #[.string ⟨#[]⟩, .slice none 0 0, .int .i64 0, .slice none 0 0] 30))); have hk4 := (HK3.out.below hb4 HK3.out.lt).alloc (.cells #[.string ⟨#[]⟩, .slice none 0 0, .int .i64 0, .slice none 0 0] 30); have q0 := hk4.cell 0; have q1 := hk4.cell 1; simp only [List.getElem?_toArray, List.getElem?_cons_zero, List.getElem?_cons_succ] at q0 q1; clear hb4 hk4)
      | (go_at_call 8; have hh := HB1.out; clear hh; refine (KN.out _ HB1.out).mono ?_; rintro e w3 ⟨⟨a3, c3, rfl, hr3⟩, hb3⟩; have HM3 := Lib.hid hr3; have HB3 := Lib.hid (HB1.out.trans (hb3.mono HB1.out.size)); have HK3 := Lib.hid (HK1.out.below hb3 HK1.out.lt); have k0 := HK3.out.cell 0; have k1 := HK3.out.cell 1; simp only [List.getElem?_toArray, List.getElem?_cons_zero, List.getElem?_cons_succ] at k0 k1; clear hr3 hb3)
      | (go_at_call 6; refine (KA.out).mono ?_; rintro e w1 ⟨rfl, hb1⟩; have HB1 := Lib.hid (HB0.out.trans (hb1.mono HB0.out.size)); have HK1 := Lib.hid (HK0.out.below hb1 HK0.out.lt); clear hb1))
    go_ret
    exact ⟨rfl, HB6.out⟩
  have hwf : wrongF f = 0 := HFL.out.good f ((memF_iff f m).1 hme)
  rw [hme] at KI
  cases yo with
  | none =>
    have e1 := E2.out rfl hwf hme rfl
    subst e1
    clear hme E1 E2 E3
    go_enter Tryz.func4, Tryz.ntmps4
    go_wp2_with (first
      | (go_at_call 9; have hh := HB4.out; clear hh; refine (KI.out _ _ _ HM4.out HB4.out).mono ?_; rintro e w5 ⟨rfl, hf5⟩; have HB5 := Lib.hid (HB4.out.trans (hf5.below.mono HB4.out.size)); clear hf5)
      | (go_at_call 10; have hh := HB3.out; clear hh; refine (KP.out _ HB3.out).mono ?_; rintro e w4 ⟨hb4, rfl⟩; have HB4 := Lib.hid ((HB3.out.trans (hb4.mono HB3.out.size)).alloc (HB3.out.trans (hb4.mono HB3.out.size)).size (.cells #[.string ⟨#[]⟩, .slice none 0 0, .int .i64 0, .slice none 0 0] 30)); have HM4 := Lib.hid ((RdFacts.up HM3.out hb4).agree RFact.steady ((Agree.refl _ _).alloc (.cells #[.string ⟨#[]⟩, .slice none 0 0, .int .i64 0, .slice none 0 0] 30))); have hk4 := (HK3.out.below hb4 HK3.out.lt).alloc (.cells #[.string ⟨#[]⟩, .slice none 0 0, .int .i64 0, .slice none 0 0] 30); have q0 := hk4.cell 0; have q1 := hk4.cell 1; simp only [List.getElem?_toArray, List.getElem?_cons_zero, List.getElem?_cons_succ] at q0 q1; clear hb4 hk4)
      | (go_at_call 8; have hh := HB1.out; clear hh; refine (KN.out _ HB1.out).mono ?_; rintro e w3 ⟨⟨a3, c3, rfl, hr3⟩, hb3⟩; have HM3 := Lib.hid hr3; have HB3 := Lib.hid (HB1.out.trans (hb3.mono HB1.out.size)); have HK3 := Lib.hid (HK1.out.below hb3 HK1.out.lt); have k0 := HK3.out.cell 0; have k1 := HK3.out.cell 1; simp only [List.getElem?_toArray, List.getElem?_cons_zero, List.getElem?_cons_succ] at k0 k1; clear hr3 hb3)
      | (go_at_call 6; refine (KA.out).mono ?_; rintro e w1 ⟨rfl, hb1⟩; have HB1 := Lib.hid (HB0.out.trans (hb1.mono HB0.out.size)); have HK1 := Lib.hid (HK0.out.below hb1 HK0.out.lt); clear hb1))
    go_ret
    exact ⟨rfl, HB5.out⟩
  | some x =>
    obtain ⟨hxf, hcx, hcn, hsm, hye⟩ := E3.out x rfl
    have hye' : ye = 0 := hye
    subst hye'
    obtain ⟨xf, xr, xk⟩ := x
    have hxf' : xf = f := hxf
    subst hxf'
    have KCC := Lib.hid (fun av kv Sa Sk W hW hxa hxk => KC.out (.mk xf xr xk) av kv Sa Sk W hW hxa hxk hsm (Nat.le_trans hcn (by decide)))
    rw [hcx] at KCC
    have hcmp : cmpFact xf xf = 0 := cmpFact3.self _
    have KQ := Lib.hid (fun (S T : Nat → Prop) va vb W (h1 : RdStrs S W va xf.args) (h2 : RdStrs T W vb xf.args) => compareFact xf xf va vb W h1 h2 (Nat.le_trans n6 (by decide)))
    rw [hcmp] at KQ
    clear hme E1 E2 E3 hye hcx hcn hsm KC hxf hcmp
    go_enter Tryz.func4, Tryz.ntmps4
    go_wp2_with (first
      | (go_at_call 7; have hh := HB6.out; clear hh; refine (KCC.out _ _ _ _ _ HB6.out HXA6.out HXK6.out).mono ?_; rintro e w7 ⟨rfl, hb7⟩; have HB7 := Lib.hid (HB6.out.trans (hb7.mono HB6.out.size)); clear hb7)
      | (go_at_call 12; have hh := HB5.out; clear hh; refine (KQ.out _ _ _ _ _ HXA5.out (HA.out.up HB5.out)).mono ?_; rintro e w6 ⟨rfl, hf6⟩; have HB6 := Lib.hid (HB5.out.trans (hf6.below.mono HB5.out.size)); have HXA6 := Lib.hid (RdStrs.up HXA5.out hf6.below); have HXK6 := Lib.hid (RdSlice.agree (RProofN.steady 61) (Below.agree hf6.below) HXK5.out); have HX6 := Lib.hid (HX5.out.below hf6.below HX5.out.lt); have y0 := HX6.out.cell 0; have y1 := HX6.out.cell 1; have y2 := HX6.out.cell 2; have y3 := HX6.out.cell 3; simp only [List.getElem?_toArray, List.getElem?_cons_zero, List.getElem?_cons_succ] at y0 y1 y2 y3; clear hf6)
      | (go_at_call 9; have hh := HB4.out; clear hh; refine (KI.out _ _ _ HM4.out HB4.out).mono ?_; rintro e w5 ⟨rfl, hf5⟩; have HB5 := Lib.hid (HB4.out.trans (hf5.below.mono HB4.out.size)); have HXA5 := Lib.hid (RdStrs.up HXA4.out hf5.below); have HXK5 := Lib.hid (RdSlice.agree (RProofN.steady 61) (Below.agree hf5.below) HXK4.out); have HX5 := Lib.hid (HX4.out.below hf5.below HX4.out.lt); have x0 := HX5.out.cell 0; have x1 := HX5.out.cell 1; have hk5 := HK4.out.below hf5.below HK4.out.lt; have r0 := hk5.cell 0; have r1 := hk5.cell 1; simp only [List.getElem?_toArray, List.getElem?_cons_zero, List.getElem?_cons_succ] at x0 x1 r0 r1; clear hf5 hk5)
      | (go_at_call 10; have hh := HB3.out; clear hh; refine (KP.out _ HB3.out).mono ?_; rintro e w4 ⟨hb4, xa, xc, ka, kc, rfl, hxa, hxk⟩; dsimp only [PProof.fact, PProof.rule, PProof.kids] at hxa hxk ⊢; have HB4 := Lib.hid ((HB3.out.trans (hb4.mono HB3.out.size)).alloc (HB3.out.trans (hb4.mono HB3.out.size)).size (.cells #[.string xf.name, .slice xa xf.args.length xc, .int .i64 xr, .slice ka xk.length kc] 30)); have HX4 := Lib.hid (Blk.new w4 30 #[.string xf.name, .slice xa xf.args.length xc, .int .i64 xr, .slice ka xk.length kc]); have HM4 := Lib.hid ((RdFacts.up HM3.out hb4).agree RFact.steady ((Agree.refl _ _).alloc (.cells #[.string xf.name, .slice xa xf.args.length xc, .int .i64 xr, .slice ka xk.length kc] 30))); have HXA4 := Lib.hid (RdSlice.agree RStr.steady ((Agree.refl _ _).alloc (.cells #[.string xf.name, .slice xa xf.args.length xc, .int .i64 xr, .slice ka xk.length kc] 30)) hxa); have HXK4 := Lib.hid (RdSlice.agree (RProofN.steady 61) ((Agree.refl _ _).alloc (.cells #[.string xf.name, .slice xa xf.args.length xc, .int .i64 xr, .slice ka xk.length kc] 30)) hxk); have HK4 := Lib.hid ((HK3.out.below hb4 HK3.out.lt).alloc (.cells #[.string xf.name, .slice xa xf.args.length xc, .int .i64 xr, .slice ka xk.length kc] 30)); have q0 := HK4.out.cell 0; have q1 := HK4.out.cell 1; simp only [List.getElem?_toArray, List.getElem?_cons_zero, List.getElem?_cons_succ] at q0 q1; clear hb4 hxa hxk)
      | (go_at_call 8; have hh := HB1.out; clear hh; refine (KN.out _ HB1.out).mono ?_; rintro e w3 ⟨⟨a3, c3, rfl, hr3⟩, hb3⟩; have HM3 := Lib.hid hr3; have HB3 := Lib.hid (HB1.out.trans (hb3.mono HB1.out.size)); have HK3 := Lib.hid (HK1.out.below hb3 HK1.out.lt); have k0 := HK3.out.cell 0; have k1 := HK3.out.cell 1; simp only [List.getElem?_toArray, List.getElem?_cons_zero, List.getElem?_cons_succ] at k0 k1; clear hr3 hb3)
      | (go_at_call 6; refine (KA.out).mono ?_; rintro e w1 ⟨rfl, hb1⟩; have HB1 := Lib.hid (HB0.out.trans (hb1.mono HB0.out.size)); have HK1 := Lib.hid (HK0.out.below hb1 HK0.out.lt); clear hb1))
    go_ret
    exact ⟨rfl, HB7.out⟩

namespace proofAll
theorem own : ownKnob Tryz.prog.godebug = none := by kernel_rfl

set_option maxRecDepth 100000 in
theorem contract (H : Type) (enc : TypeId × Value → H) (W : World) (base : Nat) (args : Array Value) (ds gs : List (DataW H)) (before : List MemPlace)
    (hval : ∀ (j : Nat) t v, Tryz.f4.params[j]? = some t → args[j]? = some v → Value.okWide Tryz.prog W .any base t v)
    (hW : DataW.Whole enc Tryz.prog Tryz.f4.params.toList Rows.proofAllSpec.vars false W args.toList ds gs before) (hk : Rows.uptoSmall H (ds ++ gs) = true) :
    Calls Tryz.prog 4 args W fun e W' => ∃ v, e = .returned v ∧ Rows.proofAllSpec.post enc Tryz.prog Tryz.f4 false true false false W args v W' := by
  have hW' := hW
  obtain ⟨p, q, hA0, hV, rfl, hfz, hnd⟩ := hW
  have hA : DataW.TrodAll enc Tryz.prog W 0 (fun _ => true) true Tryz.f4.params.toList args.toList ds p := hA0
  rw [Tryz.params4] at hA hval
  obtain ⟨v0, v1, v2, d0, d1, d2, p0, p1, p2, rfl, rfl, rfl, h0, h1, h2⟩ := trodAll_three hA
  obtain ⟨rfl, rfl⟩ := trodVars_none hV
  obtain ⟨x0, r0, s0⟩ := openRule.sliceArg Tryz.underlying23 (hval 0 23 v0 rfl rfl) h0
  obtain ⟨x1, r1, s1⟩ := openFact.sliceArg Tryz.underlying24 (hval 1 24 v1 rfl rfl) h1
  obtain ⟨x2, a2, rfl, r2, s2⟩ := openFact.factArg Tryz.underlying27 (hval 2 27 v2 rfl rfl) h2
  rw [List.append_nil] at hk
  have hb : Rows.uptoBulkAll [d0, d1, d2] ≤ 1048576 := of_decide_eq_true hk
  simp only [Rows.uptoBulkAll] at hb
  obtain ⟨l0, m0, k0⟩ := rules_small (p := x0) (by omega)
  have l1 := sizeL_le openFact.one x1
  have m1 : ∀ z ∈ x1, z.args.length ≤ 1048576 := fun z hz => by have h1 := sizeL_mem (size := sizeFact) hz; have h2 := sizeL_le openStr.one z.args; simp only [sizeFact] at h1; omega
  have l2 := sizeL_le openStr.one x2.args
  simp only [sizeFact] at s2
  refine (proofAllCalls x0 _ _ x1 x2 _ W r0 r1 r2 l0 m0 k0 (by omega) m1 (by omega)).mono fun e W' ⟨he, hb'⟩ => ?_
  subst he
  exact ⟨_, rfl, law_post (tb := 4) hW' rfl rfl (by kernel_rfl) Tryz.underlying4 (by kernel_rfl) (by kernel_rfl) hb'⟩

set_option maxRecDepth 100000 in
theorem lifted (os : Os) (started : os.Started) (H : Type) (enc : TypeId × Value → H) (F : Stop.Interp) :
    ReturnsInHanded {} Tryz.checked os 4 .any ((Rows.OpenSpec.upto Rows.proofAllSpec).pre6 enc Tryz.prog Tryz.f4 Rows.proofAllUptoRow.domain false) (((Rows.OpenSpec.upto Rows.proofAllSpec).at F).post enc Tryz.prog Tryz.f4 false true false false) := by
  refine returnsInHanded_of_cond (C := Tryz.checked) (s := Rows.OpenSpec.upto Rows.proofAllSpec) (k := Rows.uptoSmall) rfl own started (by kernel_rfl) Tryz.func4
    (OpenSpec.witness (enc := enc) (C := Tryz.checked) (s := Rows.OpenSpec.upto Rows.proofAllSpec) (k := Rows.uptoSmall) rfl false ⟨#[], #[.slice none 0 0, .slice none 0 0, .agg #[.string .empty, .slice none 0 0]], []⟩ 8 (by kernel_rfl) (by kernel_rfl) (by kernel_rfl)
      (x := ([.nil, .nil, .agg [.lit (.string []), .nil]], [], [])) (by kernel_rfl) rfl (by kernel_rfl)) ?_
  intro W base args ds gs before hval hW _ hk _
  exact contract H enc W base args ds gs before hval hW hk

theorem proved : Rows.ProofAllUptoSaid :=
  OpenClaim.holds_of_cond 4 Tryz.f4 rfl rfl rfl rfl rfl rfl rfl ⟨rfl, rfl, rfl, rfl, rfl⟩ rfl rfl rfl rfl rfl (by kernel_rfl) Tryz.func4 (by kernel_rfl)
    (of_decide_eq_true (by kernel_rfl)) (by unfold Func.isWrapper; first | (rw [if_pos (by decide +kernel)]; kernel_rfl) | (rw [if_neg (by decide +kernel)]; exact ⟨rfl, rfl⟩))
    (fun os started H enc _ F => lifted os started H enc F)
end proofAll

end Go.Proofs.YtoffggiaecclmaaGreat
