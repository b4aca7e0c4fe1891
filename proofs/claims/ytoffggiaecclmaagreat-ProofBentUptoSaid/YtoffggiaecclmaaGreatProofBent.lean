/-
  corolaw7.ProofBent ALWAYS ANSWERS TRUE: a proof whose fact is another one, that does not follow, is wrong, wherever in it that stands. For any arguments of ordinary size; without conditions.
-/
import Derived.Test.YtoffggiaecclmaaGreatPk16
import Derived.Test.YtoffggiaecclmaaGreatPk20
import Derived.Test.YtoffggiaecclmaaGreatPk21
import Derived.Test.YtoffggiaecclmaaGreatChecked
namespace Go.Proofs.YtoffggiaecclmaaGreat
open Go.RowKit Go.ChangeShapes Go.WideShapes Go.Deep

theorem Place.form {w : World} {N X B off lo hi m : Nat} {y : PProof} {av kv : Value} (h : Place w N X B off lo hi m y av kv) : ∃ a c, kv = .slice a y.kids.length c := by
  obtain ⟨a, c, e, -⟩ := h.own.kids.2.form
  exact ⟨a, c, e⟩
theorem trodAll_five {H : Type} {enc : TypeId × Value → H} {P : Program} {w : World} {base : Nat} {spare : Nat → Bool} {held : Bool} {t t' t'' t3 t4 : TypeId} {args : Array Value} {ds : List (DataW H)} {ps : List MemPlace} (h : DataW.TrodAll enc P w base spare held [t, t', t'', t3, t4] args.toList ds ps) :
    ∃ v v' v'' v3 v4 d d' d'' d3 d4 p p' p'' p3 p4, args = #[v, v', v'', v3, v4] ∧ ds = [d, d', d'', d3, d4] ∧ ps = p ++ p' ++ p'' ++ p3 ++ p4 ∧ DataW.Trod enc P w base spare held t v d p ∧ DataW.Trod enc P w base spare held t' v' d' p' ∧ DataW.Trod enc P w base spare held t'' v'' d'' p'' ∧ DataW.Trod enc P w base spare held t3 v3 d3 p3 ∧ DataW.Trod enc P w base spare held t4 v4 d4 p4 := by
  obtain ⟨v, vs, d, ds', p, q, hargs, rfl, rfl, hd, hrest⟩ := trodAll_cons h
  obtain ⟨v', vs', d', ds'', p', q', rfl, rfl, rfl, hd', hrest'⟩ := trodAll_cons hrest
  obtain ⟨v'', vs'', d'', ds''', p'', q'', rfl, rfl, rfl, hd'', hrest''⟩ := trodAll_cons hrest'
  obtain ⟨v3, vs3, d3, ds3, p3, q3, rfl, rfl, rfl, hd3, hrest3⟩ := trodAll_cons hrest''
  obtain ⟨v4, vs4, d4, ds4, p4, q4, rfl, rfl, rfl, hd4, hrest4⟩ := trodAll_cons hrest3
  obtain ⟨rfl, rfl, rfl⟩ := trodAll_nil hrest4
  exact ⟨v, v', v'', v3, v4, d, d', d'', d3, d4, p, p', p'', p3, p4, by cases args; simp_all, rfl, by simp, hd, hd', hd'', hd3, hd4⟩

attribute [local go_sem ↓] Go.wp_at_zero Go.wp_at_succ
set_option maxRecDepth 100000 in
set_option maxHeartbeats 8000000 in
theorem proofBentCalls {S S3 S4 S5 S6 : Nat → Prop} (p : List PRule) (v fv : Value) (l : List PFact) (f g : PFact) (av gv : Value) (way : List Int) (wv : Value) (w : World) (h : RdRules S w v p) (hf : RdFacts S3 w fv l) (ha : RdStrs S4 w av f.args) (hg : RdStrs S5 w gv g.args) (hy : RdInts S6 w wv way)
    (n1 : p.length ≤ 1048576) (n2 : ∀ r ∈ p, RuleSmall r) (n3 : ∀ r ∈ p, NameSmall r) (n4 : l.length ≤ 1048576) (n5 : ∀ x ∈ l, x.args.length ≤ 1048576) (n6 : f.args.length ≤ 1048576) (n7 : g.args.length ≤ 1048576) (n8 : way.length ≤ 1048576) :
    Calls Tryz.prog 5 #[v, fv, .agg #[.string f.name, av], .agg #[.string g.name, gv], wv] w fun e w' => e = .returned (.bool true) ∧ Below w.heap.size w w' := by
  obtain ⟨a, c, rfl, -, -, -⟩ := id h.form
  obtain ⟨fa, fc, rfl, -, -, -⟩ := id hf.form
  obtain ⟨aa, ac, rfl, -, -, -⟩ := id ha.form
  obtain ⟨ga, gc, rfl, -, -, -⟩ := id hg.form
  obtain ⟨wa, wc, rfl, -, -, -⟩ := id hy.form
  obtain ⟨st, q, hS⟩ := exists_strata p
  obtain ⟨W0, hW0⟩ : ∃ W0 : World, (w.alloc (.cells #[.string f.name, .slice aa f.args.length ac] 27)).alloc (.cells #[.string g.name, .slice ga g.args.length gc] 27) = W0 := ⟨_, rfl⟩
  have HB0 := Lib.hid (show Below w.heap.size w W0 by subst hW0; exact ((Below.refl _ _).alloc (Nat.le_refl _) _).alloc (by simp) _)
  have HK0 := Lib.hid (show Blk W0 w.heap.size 27 #[.string f.name, .slice aa f.args.length ac] by subst hW0; exact (Blk.new w _ _).alloc _)
  have HG0 := Lib.hid (show Blk W0 (w.heap.size + 1) 27 #[.string g.name, .slice ga g.args.length gc] by subst hW0; exact heap_new_at (by simp))
  have KA := Lib.hid (alive7Calls W0)
  have KN := Lib.hid (fun W (hW : Below w.heap.size w W) => naiveReads p (.slice a p.length c) (.slice fa l.length fc) st q l W hS (h.up hW) (RdFacts.up hf hW) n1 n2 n3 n4 n5)
  have KP := Lib.hid (fun W (hW : Below w.heap.size w W) => proveOwn p (.slice a p.length c) (.slice fa l.length fc) st q l f (.slice aa f.args.length ac) W hS (h.up hW) (RdFacts.up hf hW) (ha.up hW) n1 n2 n3 n4 n5 n6)
  have KC := Lib.hid (fun (x : PProof) (av kv : Value) W (hW : Below w.heap.size w W) (hxa : RdStrs (fun _ => True) W av x.fact.args) (hxk : RdProofs 61 (fun _ => True) W kv x.kids) (hs : smallN 62 x) (hc : cntN 62 x ≤ 400) => checkCalls p (.slice a p.length c) (.slice fa l.length fc) st q l 61 x av kv W hS (h.up hW) (RdFacts.up hf hW) hxa hxk hs (Nat.le_trans hc (by decide)) n1 n2 n3 n4 n5)
  have HGA := Lib.hid (hg.more RStr.steady (S' := fun b => b < w.heap.size) (fun b _ hl => hl))
  have HY := Lib.hid (hy.more RInt.steady (S' := fun b => b < w.heap.size) (fun b _ hl => hl))
  have HFO := Lib.hid (naive_follows hS (l := l))
  have E1 := Lib.hid (prove_bad (st := st) (q := q.1) (p := p) (l := l) (f := f))
  have E2 := Lib.hid (prove_code (st := st) (q := q.1) (p := p) (l := l) (f := f))
  have E3 := Lib.hid (fun x (hx : (proveP st q.1 p l f).1 = some x) => prove_right (m := 62) hS hx (by decide))
  have EB := Lib.hid (fun (hn : (naiveP st q.1 p l).2 = 0) (hm : memF g (naiveP st q.1 p l).1 = false) (x y : PProof) (hs : SubP y x) (hyg : y.fact = g) => bent_check (n := 62) hS hn hs (by rw [hyg]; exact hm))
  clear h hf ha hg hy n2 n3 n5 hS
  generalize checkN st q.1 p l 62 = cx at *
  generalize proveP st q.1 p l f = y at *
  generalize naiveP st q.1 p l = z at *
  obtain ⟨m, e0⟩ := z
  obtain ⟨yo, ye⟩ := y
  dsimp only at *
  by_cases he : e0 = 0
  case neg =>
    have g1 : (e0 != 0) = true := by simpa using he
    have hyo : yo = none := E1.out he
    subst hyo
    clear he HFO E1 E2 E3 KC EB
    go_enter Tryz.func5, Tryz.ntmps5
    go_wp2_with (first
      | (go_at_call 10; have hh := HB3.out; clear hh; refine (KP.out _ HB3.out).mono ?_; rintro e w4 ⟨hb4, rfl⟩; have HB4 := Lib.hid ((HB3.out.trans (hb4.mono HB3.out.size)).alloc (HB3.out.trans (hb4.mono HB3.out.size)).size (.cells #[.string ⟨#[]⟩, .slice none 0 0, .int .i64 0, .slice none 0 0] 30)); clear hb4)
      | (go_at_call 8; have hh := HB1.out; clear hh; refine (KN.out _ HB1.out).mono ?_; rintro e w3 ⟨⟨a3, c3, rfl, hr3⟩, hb3⟩; have HB3 := Lib.hid (HB1.out.trans (hb3.mono HB1.out.size)); have HK3 := Lib.hid (HK1.out.below hb3 HK1.out.lt); have k0 := HK3.out.cell 0; have k1 := HK3.out.cell 1; simp only [List.getElem?_toArray, List.getElem?_cons_zero, List.getElem?_cons_succ] at k0 k1; clear hr3 hb3)
      | (go_at_call 6; refine (KA.out).mono ?_; rintro e w1 ⟨rfl, hb1⟩; have HB1 := Lib.hid (HB0.out.trans (hb1.mono HB0.out.size)); have HK1 := Lib.hid (HK0.out.below hb1 HK0.out.lt); clear hb1))
    go_ret
    exact ⟨rfl, HB4.out⟩
  subst he
  obtain ⟨hF, -, -⟩ := HFO.out rfl
  have HFL := Lib.hid hF
  have KI := Lib.hid (fun (S T : Nat → Prop) W mv (hr : RdFacts S W mv m) (hg : RdStrs T W (.slice ga g.args.length gc) g.args) => inFact mv m g (.slice ga g.args.length gc) W hr hg HFL.out.rise (Nat.le_trans HFL.out.len (by decide)) (fun z hz => by have := (wrongF_zero.1 (HFL.out.good z hz)).2.1; omega))
  clear hF HFO
  cases yo with
  | none =>
    have hye := E2.out rfl
    have g2 : (ye != 0) = true := by simpa using hye
    clear hye E1 E2 E3 KC EB
    go_enter Tryz.func5, Tryz.ntmps5
    go_wp2_with (first
      | (go_at_call 10; have hh := HB3.out; clear hh; refine (KP.out _ HB3.out).mono ?_; rintro e w4 ⟨hb4, rfl⟩; have HB4 := Lib.hid ((HB3.out.trans (hb4.mono HB3.out.size)).alloc (HB3.out.trans (hb4.mono HB3.out.size)).size (.cells #[.string ⟨#[]⟩, .slice none 0 0, .int .i64 0, .slice none 0 0] 30)); clear hb4)
      | (go_at_call 8; have hh := HB1.out; clear hh; refine (KN.out _ HB1.out).mono ?_; rintro e w3 ⟨⟨a3, c3, rfl, hr3⟩, hb3⟩; have HB3 := Lib.hid (HB1.out.trans (hb3.mono HB1.out.size)); have HK3 := Lib.hid (HK1.out.below hb3 HK1.out.lt); have k0 := HK3.out.cell 0; have k1 := HK3.out.cell 1; simp only [List.getElem?_toArray, List.getElem?_cons_zero, List.getElem?_cons_succ] at k0 k1; clear hr3 hb3)
      | (go_at_call 6; refine (KA.out).mono ?_; rintro e w1 ⟨rfl, hb1⟩; have HB1 := Lib.hid (HB0.out.trans (hb1.mono HB0.out.size)); have HK1 := Lib.hid (HK0.out.below hb1 HK0.out.lt); clear hb1))
    go_ret
    exact ⟨rfl, HB4.out⟩
  | some x =>
    obtain ⟨-, -, hcn, hsm, hye⟩ := E3.out x rfl
    have hye' : ye = 0 := hye
    subst hye'
    cases hmg : memF g m with
    | true =>
      rw [hmg] at KI
      clear hmg E1 E2 E3 KC EB hcn hsm hye
      go_enter Tryz.func5, Tryz.ntmps5
      go_wp2_with (first
        | (go_at_call 9; have hh := HB4.out; clear hh; refine (KI.out _ _ _ _ HM4.out (RdStrs.up HGA.out HB4.out)).mono ?_; rintro e w5 ⟨rfl, hf5⟩; have HB5 := Lib.hid (HB4.out.trans (hf5.below.mono HB4.out.size)); clear hf5)
        | (go_at_call 10; have hh := HB3.out; clear hh; refine (KP.out _ HB3.out).mono ?_; rintro e w4 ⟨hb4, xa, xc, ka, kc, rfl, hxo⟩; have HB4 := Lib.hid ((HB3.out.trans (hb4.mono HB3.out.size)).alloc (HB3.out.trans (hb4.mono HB3.out.size)).size (.cells #[.string x.fact.name, .slice xa x.fact.args.length xc, .int .i64 x.rule, .slice ka x.kids.length kc] 30)); have HM4 := Lib.hid ((RdFacts.up HM3.out hb4).agree RFact.steady ((Agree.refl _ _).alloc (.cells #[.string x.fact.name, .slice xa x.fact.args.length xc, .int .i64 x.rule, .slice ka x.kids.length kc] 30))); have hg4 := (HG3.out.below hb4 HG3.out.lt).alloc (.cells #[.string x.fact.name, .slice xa x.fact.args.length xc, .int .i64 x.rule, .slice ka x.kids.length kc] 30); have q0 := hg4.cell 0; have q1 := hg4.cell 1; simp only [List.getElem?_toArray, List.getElem?_cons_zero, List.getElem?_cons_succ] at q0 q1; clear hb4 hg4 hxo)
        | (go_at_call 8; have hh := HB1.out; clear hh; refine (KN.out _ HB1.out).mono ?_; rintro e w3 ⟨⟨a3, c3, rfl, hr3⟩, hb3⟩; have HM3 := Lib.hid hr3; have HB3 := Lib.hid (HB1.out.trans (hb3.mono HB1.out.size)); have HG3 := Lib.hid (HG1.out.below hb3 HG1.out.lt); have HK3 := Lib.hid (HK1.out.below hb3 HK1.out.lt); have k0 := HK3.out.cell 0; have k1 := HK3.out.cell 1; simp only [List.getElem?_toArray, List.getElem?_cons_zero, List.getElem?_cons_succ] at k0 k1; clear hr3 hb3)
        | (go_at_call 6; refine (KA.out).mono ?_; rintro e w1 ⟨rfl, hb1⟩; have HB1 := Lib.hid (HB0.out.trans (hb1.mono HB0.out.size)); have HK1 := Lib.hid (HK0.out.below hb1 HK0.out.lt); have HG1 := Lib.hid (HG0.out.below hb1 HG0.out.lt); clear hb1))
      go_ret
      exact ⟨rfl, HB5.out⟩
    | false =>
      have EBB := Lib.hid (EB.out rfl hmg)
      have KR := Lib.hid (fun (S T : Nat → Prop) W mv (hr : RdFacts S W mv m) (hg : RdStrs T W (.slice ga g.args.length gc) g.args) => inRef mv m g (.slice ga g.args.length gc) W hr hg (Nat.le_trans HFL.out.len (by decide)) (fun z hz => by have := (wrongF_zero.1 (HFL.out.good z hz)).2.1; omega) (Nat.le_trans n7 (by decide)))
      rw [hmg] at KI KR
      have HSM := Lib.hid hsm
      have HCN := Lib.hid hcn
      clear hmg E1 E2 E3 EB hcn hsm hye
      go_enter Tryz.func5, Tryz.ntmps5
      go_wp2_with (first
        | (go_at_call 9; have hh := HB4.out; clear hh; refine (KI.out _ _ _ _ HM4.out (RdStrs.up HGA.out HB4.out)).mono ?_; rintro e w5 ⟨rfl, hf5⟩; have HB5 := Lib.hid (HB4.out.trans (hf5.below.mono HB4.out.size)); have HM5 := Lib.hid (RdSlice.agree RFact.steady (Below.agree hf5.below) HM4.out); have HG5 := Lib.hid (HG4.out.below hf5.below HG4.out.lt); have HP5 := Lib.hid (place_root (N := w3.heap.size) (HX4.out.below hf5.below HX4.out.lt) (HXO.out.agree (Below.agree hf5.below)) (fun h => Nat.lt_irrefl _ h.2) HN4.out (Nat.le_refl _) HSM.out HCN.out); have HN5 := Lib.hid HN3.out; clear hf5)
        | (go_at_call 10; have hh := HB3.out; clear hh; refine (KP.out _ HB3.out).mono ?_; rintro e w4 ⟨hb4, xa, xc, ka, kc, rfl, hxo⟩; have HB4 := Lib.hid ((HB3.out.trans (hb4.mono HB3.out.size)).alloc (HB3.out.trans (hb4.mono HB3.out.size)).size (.cells #[.string x.fact.name, .slice xa x.fact.args.length xc, .int .i64 x.rule, .slice ka x.kids.length kc] 30)); have HX4 := Lib.hid (Blk.new w4 30 #[.string x.fact.name, .slice xa x.fact.args.length xc, .int .i64 x.rule, .slice ka x.kids.length kc]); have HXO := Lib.hid (hxo.agree ((Agree.refl _ _).alloc (.cells #[.string x.fact.name, .slice xa x.fact.args.length xc, .int .i64 x.rule, .slice ka x.kids.length kc] 30))); have HN4 := Lib.hid hb4.size; have HM4 := Lib.hid (RdSlice.agree RFact.steady ((Below.agree hb4).alloc (.cells #[.string x.fact.name, .slice xa x.fact.args.length xc, .int .i64 x.rule, .slice ka x.kids.length kc] 30)) HM3.out); have HG4 := Lib.hid ((HG3.out.below hb4 HG3.out.lt).alloc (.cells #[.string x.fact.name, .slice xa x.fact.args.length xc, .int .i64 x.rule, .slice ka x.kids.length kc] 30)); have q0 := HG4.out.cell 0; have q1 := HG4.out.cell 1; simp only [List.getElem?_toArray, List.getElem?_cons_zero, List.getElem?_cons_succ] at q0 q1; clear hb4 hxo)
        | (go_at_call 8; have hh := HB1.out; clear hh; refine (KN.out _ HB1.out).mono ?_; rintro e w3 ⟨⟨a3, c3, rfl, hr3⟩, hb3⟩; have HM3 := Lib.hid (hr3.more RFact.steady (S' := fun b => b < w3.heap.size) (fun b _ hl => hl)); have HB3 := Lib.hid (HB1.out.trans (hb3.mono HB1.out.size)); have HG3 := Lib.hid (HG1.out.below hb3 HG1.out.lt); have HN3 := Lib.hid HG3.out.lt; have HK3 := Lib.hid (HK1.out.below hb3 HK1.out.lt); have k0 := HK3.out.cell 0; have k1 := HK3.out.cell 1; simp only [List.getElem?_toArray, List.getElem?_cons_zero, List.getElem?_cons_succ] at k0 k1; clear hr3 hb3)
        | (go_at_call 6; refine (KA.out).mono ?_; rintro e w1 ⟨rfl, hb1⟩; have HB1 := Lib.hid (HB0.out.trans (hb1.mono HB0.out.size)); have HK1 := Lib.hid (HK0.out.below hb1 HK0.out.lt); have HG1 := Lib.hid (HG0.out.below hb1 HG0.out.lt); clear hb1))
      clear KP KN KA KI HB4 HX4 HXO HN4 HM4 HG4 q0 q1 HM3 HB3 HG3 HN3 HK3 k0 k1 HB1 HK1 HG1 HB0 HK0 HG0 HSM HCN HFL
      generalize w4.heap.size = X at *
      generalize w3.heap.size = N at *
      go_loopw [46, 15] (fun i at' wr => ∃ (k B off lo hi m2 : Nat) (y : PProof) (ay ky : Value), k ≤ way.length ∧ i = .int .i64 k ∧ at' = .pointer (some ⟨B, off, none⟩) ∧ Hid (Below w.heap.size w wr) ∧ Hid (RdFacts (fun b => b < N) wr (.slice a3 m.length c3) m) ∧ Hid (Blk wr (w.heap.size + 1) 27 #[.string g.name, .slice ga g.args.length gc]) ∧ Hid (Place wr N X B off lo hi m2 y ay ky)) (fun i _ _ => way.length - (intOf i).toNat)
      case atStart => exact ⟨0, X, 0, _, _, 61, x, _, _, Nat.zero_le _, rfl, rfl, HB5, HM5, HG5, HP5⟩
      case round =>
        clear HB5 HM5 HG5 HP5
        obtain ⟨k, B, off, lo, hi, m2, y, ay, ky, hk, rfl, rfl, HB, HM, HG, HP⟩ := hrel
        obtain ⟨ka2, kc2, rfl⟩ := HP.out.form
        have p3 := HP.out.c3
        by_cases hlt : k < way.length
        · obtain ⟨d, hd⟩ : ∃ d, way[k]? = some d := ⟨_, List.getElem?_eq_getElem hlt⟩
          obtain ⟨b1, o1, rfl, hb1, -, d0⟩ := RdInts.at HY.out hd
          have d1 := (cell_below HB.out hb1 _).trans d0
          clear d0 hd hb1
          by_cases hneg : d < 0
          · have h0 : ¬ (0 : Int) ≤ d := by omega
            go_wp2
            go_roundw
            case rel => exact ⟨k + 1, B, off, lo, hi, m2, y, _, _, by omega, by go_num, rfl, HB, HM, HG, HP⟩
            case measure => simp [intOf]; omega
          · obtain ⟨j, rfl⟩ : ∃ j : Nat, d = (j : Int) := ⟨d.toNat, by omega⟩
            have h0 : (0 : Int) ≤ (j : Int) := by omega
            by_cases hjl : j < y.kids.length
            · obtain ⟨kd, hkd⟩ : ∃ kd, y.kids[j]? = some kd := ⟨_, List.getElem?_eq_getElem hjl⟩
              obtain ⟨n, b2, o2, c2, lo2, hi2, a2, k2, rfl, hkv, hpl⟩ := HP.out.kid hkd
              injection hkv with hv1 hv2 hv3
              subst hv1 hv3
              have HP2 := Lib.hid hpl
              have h1 : (j : Int) < (y.kids.length : Int) := by omega
              clear hpl hkd hv2
              go_wp2
              go_roundw
              case rel => exact ⟨k + 1, b2, o2 + j * 4, lo2, hi2, n, kd, _, _, by omega, by go_num, rfl, HB, HM, HG, HP2⟩
              case measure => simp [intOf]; omega
            · have h1 : ¬ (j : Int) < (y.kids.length : Int) := by omega
              go_wp2
              go_roundw
              case rel => exact ⟨k + 1, B, off, lo, hi, m2, y, _, _, by omega, by go_num, rfl, HB, HM, HG, HP⟩
              case measure => simp [intOf]; omega
        · obtain ⟨hroot, hbut⟩ := HP.out.bend g (.slice ga g.args.length gc) (RdSlice.agree RStr.steady (Below.agree HB.out) HGA.out) (fun b hb => by have h1 : b < w.heap.size := hb; have := HN5.out; omega) n7
          have hnew := HP.out.new
          have hN5 := HN5.out
          have f0 := HP.out.free off
          have f1 := HP.out.free (off + 1)
          have p0 := HP.out.c0
          have p1 := HP.out.c1
          have g0 := HG.out.cell 0
          have g1 := HG.out.cell 1
          simp only [List.getElem?_toArray, List.getElem?_cons_zero, List.getElem?_cons_succ] at g0 g1
          obtain ⟨W6, hW6⟩ : ∃ W6 : World, (wr.setCell ⟨B, off, none⟩ (.string g.name)).setCell ⟨B, off + 1, none⟩ (.slice ga g.args.length gc) = W6 := ⟨_, rfl⟩
          rw [hW6] at hroot hbut
          obtain ⟨x6, a6, k6, r0, r1, r2, r3, ra, rk, rs, rc, rsub⟩ := hroot
          obtain ⟨a6a, a6c, rfl, -, -, -⟩ := id ra.form
          obtain ⟨k6a, k6c, rfl, -, -, -⟩ := id rk.form
          have HB6 := Lib.hid (below_but HB.out hbut (by omega))
          have HM6 := Lib.hid (RdSlice.agree RFact.steady (hbut.agree (fun h => by have h' : B < N := h; omega)) HM.out)
          have HG6 := Lib.hid (HG.out.but hbut (by omega))
          have hcx : (cx x6 != 0) = true := by simpa using EBB.out x6 _ rsub rfl
          have KCC := Lib.hid (KC.out x6 _ _ W6 HB6.out ra rk rs rc)
          have HRK := Lib.hid rk
          clear KC ra rk rs rc rsub hbut HP HM HG HB hnew p3
          generalize cx x6 = cc at *
          go_wp2_with (first
            | (go_at_call 13; have hh := HB7.out; clear hh; refine (KR.out _ _ _ _ HM7.out (RdStrs.up HGA.out HB7.out)).mono ?_; rintro e w8 ⟨rfl, hf8⟩; have HB8 := Lib.hid (HB7.out.trans (hf8.below.mono HB7.out.size)); clear hf8)
            | (go_at_call 7; refine (KCC.out).mono ?_; rintro e w7 ⟨rfl, hb7⟩; have HB7 := Lib.hid (HB6.out.trans (hb7.mono HB6.out.size)); have HM7 := Lib.hid (RdSlice.agree RFact.steady (Below.agree hb7) HM6.out); have hg7 := HG6.out.below hb7 HG6.out.lt; have s0 := hg7.cell 0; have s1 := hg7.cell 1; simp only [List.getElem?_toArray, List.getElem?_cons_zero, List.getElem?_cons_succ] at s0 s1; clear hb7 hg7))
          go_ret
          exact ⟨rfl, HB8.out⟩

namespace proofBent
theorem own : ownKnob Tryz.prog.godebug = none := by kernel_rfl

set_option maxRecDepth 100000 in
theorem contract (H : Type) (enc : TypeId × Value → H) (W : World) (base : Nat) (args : Array Value) (ds gs : List (DataW H)) (before : List MemPlace)
    (hval : ∀ (j : Nat) t v, Tryz.f5.params[j]? = some t → args[j]? = some v → Value.okWide Tryz.prog W .any base t v)
    (hW : DataW.Whole enc Tryz.prog Tryz.f5.params.toList Rows.proofBentSpec.vars false W args.toList ds gs before) (hk : Rows.uptoSmall H (ds ++ gs) = true) :
    Calls Tryz.prog 5 args W fun e W' => ∃ v, e = .returned v ∧ Rows.proofBentSpec.post enc Tryz.prog Tryz.f5 false true false false W args v W' := by
  have hW' := hW
  obtain ⟨p, q, hA0, hV, rfl, hfz, hnd⟩ := hW
  have hA : DataW.TrodAll enc Tryz.prog W 0 (fun _ => true) true Tryz.f5.params.toList args.toList ds p := hA0
  rw [Tryz.params5] at hA hval
  obtain ⟨v0, v1, v2, v3, v4, d0, d1, d2, d3, d4, p0, p1, p2, p3, p4, rfl, rfl, rfl, h0, h1, h2, h3, h4⟩ := trodAll_five hA
  obtain ⟨rfl, rfl⟩ := trodVars_none hV
  obtain ⟨x0, r0, s0⟩ := openRule.sliceArg Tryz.underlying23 (hval 0 23 v0 rfl rfl) h0
  obtain ⟨x1, r1, s1⟩ := openFact.sliceArg Tryz.underlying24 (hval 1 24 v1 rfl rfl) h1
  obtain ⟨x2, a2, rfl, r2, s2⟩ := openFact.factArg Tryz.underlying27 (hval 2 27 v2 rfl rfl) h2
  obtain ⟨x3, a3, rfl, r3, s3⟩ := openFact.factArg Tryz.underlying27 (hval 3 27 v3 rfl rfl) h3
  obtain ⟨x4, r4, s4⟩ := openInt.sliceArg Tryz.underlying43 (hval 4 43 v4 rfl rfl) h4
  rw [List.append_nil] at hk
  have hb : Rows.uptoBulkAll [d0, d1, d2, d3, d4] ≤ 1048576 := of_decide_eq_true hk
  simp only [Rows.uptoBulkAll] at hb
  obtain ⟨l0, m0, k0⟩ := rules_small (p := x0) (by omega)
  have l1 := sizeL_le openFact.one x1
  have m1 : ∀ z ∈ x1, z.args.length ≤ 1048576 := fun z hz => by have h1 := sizeL_mem (size := sizeFact) hz; have h2 := sizeL_le openStr.one z.args; simp only [sizeFact] at h1; omega
  have l2 := sizeL_le openStr.one x2.args
  simp only [sizeFact] at s2
  have l3 := sizeL_le openStr.one x3.args
  simp only [sizeFact] at s3
  have l4 := sizeL_le openInt.one x4
  refine (proofBentCalls x0 _ _ x1 x2 x3 _ _ x4 _ W r0 r1 r2 r3 r4 l0 m0 k0 (by omega) m1 (by omega) (by omega) (by omega)).mono fun e W' ⟨he, hb'⟩ => ?_
  subst he
  exact ⟨_, rfl, law_post (tb := 4) hW' rfl rfl (by kernel_rfl) Tryz.underlying4 (by kernel_rfl) (by kernel_rfl) hb'⟩

set_option maxRecDepth 100000 in
theorem lifted (os : Os) (started : os.Started) (H : Type) (enc : TypeId × Value → H) (F : Stop.Interp) :
    ReturnsInHanded {} Tryz.checked os 5 .any ((Rows.OpenSpec.upto Rows.proofBentSpec).pre6 enc Tryz.prog Tryz.f5 Rows.proofBentUptoRow.domain false) (((Rows.OpenSpec.upto Rows.proofBentSpec).at F).post enc Tryz.prog Tryz.f5 false true false false) := by
  refine returnsInHanded_of_cond (C := Tryz.checked) (s := Rows.OpenSpec.upto Rows.proofBentSpec) (k := Rows.uptoSmall) rfl own started (by kernel_rfl) Tryz.func5
    (OpenSpec.witness (enc := enc) (C := Tryz.checked) (s := Rows.OpenSpec.upto Rows.proofBentSpec) (k := Rows.uptoSmall) rfl false ⟨#[], #[.slice none 0 0, .slice none 0 0, .agg #[.string .empty, .slice none 0 0], .agg #[.string .empty, .slice none 0 0], .slice none 0 0], []⟩ 8 (by kernel_rfl) (by kernel_rfl) (by kernel_rfl)
      (x := ([.nil, .nil, .agg [.lit (.string []), .nil], .agg [.lit (.string []), .nil], .nil], [], [])) (by kernel_rfl) rfl (by kernel_rfl)) ?_
  intro W base args ds gs before hval hW _ hk _
  exact contract H enc W base args ds gs before hval hW hk

theorem proved : Rows.ProofBentUptoSaid :=
  OpenClaim.holds_of_cond 5 Tryz.f5 rfl rfl rfl rfl rfl rfl rfl ⟨rfl, rfl, rfl, rfl, rfl⟩ rfl rfl rfl rfl rfl (by kernel_rfl) Tryz.func5 (by kernel_rfl)
    (of_decide_eq_true (by kernel_rfl)) (by unfold Func.isWrapper; first | (rw [if_pos (by decide +kernel)]; kernel_rfl) | (rw [if_neg (by decide +kernel)]; exact ⟨rfl, rfl⟩))
    (fun os started H enc _ F => lifted os started H enc F)
end proofBent

end Go.Proofs.YtoffggiaecclmaaGreat
