/-
  DeskResumes holds: wherever a run stopped, saved and read again it comes to the same. No conditions besides those of the row.
-/
import Derived.Test.YtiaehkpimepbgaaGreatPk17
import Derived.Test.YtiaehkpimepbgaaGreatPk31
import Derived.Test.YtiaehkpimepbgaaGreatPk32
namespace Go.Proofs.YtiaehkpimepbgaaGreat
open Go.RowKit Go.ChangeShapes Go.WideShapes Go.ChangeAt

theorem iter_small8 {st : List Int} {q : Int × Int} {p : List PRule} (n2 : ∀ r ∈ p, RuleSmall r) : ∀ {k : Nat} {r : PRun}, RunSmall r → RunSmall (iterP st q.1 p k r).1
  | 0, r, h => h
  | k + 1, r, h => by
    rw [iterP]
    split
    · exact h
    split
    · exact zero_small
    · exact iter_small8 n2 (step_small n2 h)
theorem steps_small8 {st : List Int} {q : Int × Int} {p : List PRule} (n2 : ∀ r ∈ p, RuleSmall r) {r : PRun} {n : Int} (h : RunSmall r) : RunSmall (stepsRun st q.1 p r n).1 := by
  unfold stepsRun
  split
  · exact zero_small
  split
  · exact zero_small
  · exact iter_small8 n2 h

theorem exists_sp : ∃ sp : StrataFn, ∀ p, StrataIs p (sp p).1 (sp p).2 := ⟨fun p => ((exists_strata p).choose, (exists_strata p).choose_spec.choose), fun p => (exists_strata p).choose_spec.choose_spec⟩
theorem alive8True (w : World) : Calls Tryz.prog 9 #[] w fun e w' => e = .returned (.bool true) ∧ Below w.heap.size w w' := by
  obtain ⟨sp, hsp⟩ := exists_sp
  exact alive8Calls hsp w
theorem load_saved {st : List Int} {p : List PRule} {x : PRun} (hc : countP st ≤ 16) (h : RunOk st p x) : saveP st 0 p x = (runB8 x, 0) ∧ loadP st 0 p (runB8 x) = (x, 0) := by
  have hb : runBad st 0 p x = 0 := runBad_zero.2 ⟨rfl, h⟩
  obtain ⟨g1, g2⟩ := load_save hc hb
  refine ⟨save_good hb, ?_⟩
  unfold loadP
  rw [g1, g2, if_neg Bool.false_ne_true, if_neg (fun h => h hb)]
theorem all_run {st : List Int} {p : List PRule} {l : List PFact} {r : PRun} (h : beginP st 0 p l = (r, 0)) : allRun st 0 p l = if (stepsRun st 0 p r 1000).2 ≠ 0 then ([], (stepsRun st 0 p r 1000).2) else ((stepsRun st 0 p r 1000).1.known, 0) := by
  unfold allRun
  rw [h, if_neg (fun h => h rfl)]
set_option maxRecDepth 100000 in
set_option maxHeartbeats 8000000 in
theorem deskResumesCalls {S S2 : Nat → Prop} (p : List PRule) (v : Value) (l : List PFact) (fv : Value) (n : Int) (w : World) (h : RdRules S w v p) (hf : RdFacts S2 w fv l)
    (n1 : p.length ≤ 1048576) (n2 : ∀ r ∈ p, RuleSmall r) (n3 : ∀ r ∈ p, NameSmall r) (n4 : l.length ≤ 1048576) (n5 : ∀ x ∈ l, x.args.length ≤ 1048576) :
    Calls Tryz.prog 7 #[v, fv, .int .i64 n] w fun e w' => e = .returned (.bool true) ∧ Below w.heap.size w w' := by
  obtain ⟨a, c, rfl, -, -, -⟩ := id h.form
  obtain ⟨fa, fc, rfl, -, -, -⟩ := id hf.form
  obtain ⟨st, q, hS⟩ := exists_strata p
  have KA := Lib.hid (alive8True w)
  have KB := Lib.hid (fun W (hW : Below w.heap.size w W) => beginCalls p _ _ st q l W hS (h.up hW) (hf.up hW) n1 n2 n3 n4 n5)
  have KS := Lib.hid (fun W kv nv (r : PRun) (k : Int) (hW : Below w.heap.size w W) (hr : RunRd W r kv nv) hs => stepsRunCalls p (.slice a p.length c) st q r kv nv k W hS (h.up hW) hr n1 n2 n3 hs)
  have KV := Lib.hid (fun W kv nv (r : PRun) (hW : Below w.heap.size w W) (hr : RunRd W r kv nv) hs => saveCalls p (.slice a p.length c) st q r kv nv W hS (h.up hW) hr n1 n2 n3 hs)
  have KL := Lib.hid (fun W bv (b : Bytes) (hW : Below w.heap.size w W) (hb : RdBytes (fun _ => True) W bv b) => loadCalls p (.slice a p.length c) bv st q b W hS (h.up hW) hb n1 n2 n3)
  have KR := Lib.hid (fun W (hW : Below w.heap.size w W) => allRunCalls p (.slice a p.length c) (.slice fa l.length fc) st q l W hS (h.up hW) (hf.up hW) n1 n2 n3 n4 n5)
  have HSM := Lib.hid (fun (r : PRun) k hs => steps_small8 (st := st) (q := q) (p := p) n2 (r := r) (n := k) hs)
  have HBS := Lib.hid (begin_small (st := st) (q := q.1) (p := p) n4 n5)
  have HOK := Lib.hid (fun h => begin_ok hS (l := l) h)
  have HRU := Lib.hid (fun h => strata_count hS h)
  clear h hf n2 n3 n5 hS
  go_enter Tryz.func7, Tryz.ntmps7
  go_wp2_with (go_at_call 9; refine (KA.out).mono ?_; rintro e w1 ⟨rfl, hb1⟩; have HB1 := Lib.hid hb1; clear hb1)
  clear KA
  by_cases he : (beginP st q.1 p l).2 = 0
  case neg =>
    clear HOK HRU HSM KS HBS KV KL KR
    generalize beginP st q.1 p l = x at *
    obtain ⟨⟨dk, dn, ds, dr, dd⟩, er⟩ := x
    dsimp only at *
    have g1 : (er != 0) = true := by simpa using he
    clear he
    go_wp2_with (go_at_call 21; refine (KB.out _ HB1.out).mono ?_; rintro e w2 ⟨hb2, a2, c2', b2, d2', rfl, hk2, hn2⟩; have HI2 := Lib.hid (RunIn.mk_ (r := ⟨dk, dn, ds, dr, dd⟩) HB1.out hb2 hk2 hn2); clear hb2 hk2 hn2)
    go_ret
    exact ⟨rfl, HI2.out.below⟩
  obtain ⟨hq, -, -, hok⟩ := HOK.out he
  have HR := Lib.hid hok
  have HRL := Lib.hid (HRU.out hq).1
  obtain ⟨-, -, hcc, -⟩ := HRU.out hq
  clear hok HOK HRU
  obtain ⟨q1, q2⟩ := q
  dsimp only at hq
  subst hq
  dsimp only at *
  have HAL := Lib.hid (fun r (h : beginP st 0 p l = (r, 0)) => all_run h)
  generalize hbx : beginP st 0 p l = x at *
  clear hbx
  obtain ⟨⟨dk, dn, ds, dr, dd⟩, er⟩ := x
  dsimp only at *
  subst he
  replace HAL := Lib.hid (HAL.out _ rfl)
  by_cases hrg : n < 0 ∨ 100 < n
  · have hcs : n < 0 ∨ ¬ n < 0 ∧ 100 < n := by omega
    clear hrg HAL KR KV KL KS
    rcases hcs with h1 | ⟨h1, h2⟩
    all_goals
      go_wp2_with (go_at_call 21; refine (KB.out _ HB1.out).mono ?_; rintro e w2 ⟨hb2, a2, c2', b2, d2', rfl, hk2, hn2⟩; have HI2 := Lib.hid (RunIn.mk_ (r := ⟨dk, dn, ds, dr, dd⟩) HB1.out hb2 hk2 hn2); clear hb2 hk2 hn2)
      go_ret
      exact ⟨rfl, HI2.out.below⟩
  obtain ⟨h1, h2⟩ : ¬ n < 0 ∧ ¬ 100 < n := by omega
  have HRES := Lib.hid (fun he => resumes HRL.out hcc HR.out (n := n) (by omega) (by omega) he)
  have HXS := Lib.hid (HSM.out _ n HBS.out)
  have KS1 := Lib.hid (fun W kv nv hW hr => KS.out W kv nv _ n hW hr HBS.out)
  generalize stepsRun st 0 p ⟨dk, dn, ds, dr, dd⟩ n = y at *
  obtain ⟨⟨ek, en, es, er', ed⟩, e2⟩ := y
  dsimp only at *
  by_cases he2 : e2 = 0
  case neg =>
    have g1 : (e2 != 0) = true := by simpa using he2
    clear he2 HAL KR KV KL KS HRES
    go_wp2_with (first
      | (go_at_call 22; have hh := HI2.out; clear hh; refine (KS1.out _ _ _ HI2.out.below HI2.out.rd).mono ?_; rintro e w3 ⟨hb3, a3, c3', b3, d3', rfl, hk3, hn3⟩; have HI3 := Lib.hid (RunIn.mk_ (r := ⟨ek, en, es, er', ed⟩) HI2.out.below hb3 hk3 hn3); clear hb3 hk3 hn3)
      | (go_at_call 21; refine (KB.out _ HB1.out).mono ?_; rintro e w2 ⟨hb2, a2, c2', b2, d2', rfl, hk2, hn2⟩; have HI2 := Lib.hid (RunIn.mk_ (r := ⟨dk, dn, ds, dr, dd⟩) HB1.out hb2 hk2 hn2); have c0 := HI2.out.blk.cell 0; have c1 := HI2.out.blk.cell 1; have c2 := HI2.out.blk.cell 2; have c3 := HI2.out.blk.cell 3; have c4 := HI2.out.blk.cell 4; simp only [List.getElem?_toArray, List.getElem?_cons_zero, List.getElem?_cons_succ] at c0 c1 c2 c3 c4; clear hb2 hk2 hn2))
    go_ret
    exact ⟨rfl, HI3.out.below⟩
  subst he2
  obtain ⟨hxk, hr1, hr2⟩ := HRES.out rfl
  obtain ⟨hsv, hld⟩ := load_saved hcc hxk
  have HZS := Lib.hid (HSM.out _ 1000 HXS.out)
  have KS2 := Lib.hid (fun W kv nv hW hr => KS.out W kv nv _ 1000 hW hr HXS.out)
  have KV2 := Lib.hid (fun W kv nv hW hr => KV.out W kv nv _ hW hr HXS.out)
  have KL2 := Lib.hid (fun W bv hW hb => KL.out W bv (runB8 ⟨ek, en, es, er', ed⟩) hW hb)
  rw [hsv] at KV2
  rw [hld] at KL2
  rw [← hr1, ← hr2] at HAL
  clear HRES hxk hr1 hr2 hsv hld KV KL KS HSM HBS
  generalize stepsRun st 0 p ⟨ek, en, es, er', ed⟩ 1000 = z at *
  obtain ⟨⟨gk, gn, gs, gr, gd⟩, e3⟩ := z
  generalize runB8 ⟨ek, en, es, er', ed⟩ = xb at *
  dsimp only at *
  by_cases he3 : e3 = 0
  · subst he3
    have hal : allRun st 0 p l = (gk, 0) := by rw [HAL.out, if_neg (by decide)]
    rw [hal] at KR
    clear hal HAL
    have KQ := Lib.hid (fun W va vb (h1 : RdFacts (fun _ => True) W va gk) (h2 : RdFacts (fun _ => True) W vb gk) => sameRef va vb gk gk W h1 h2 (by have := HZS.out.k1; dsimp only at this; omega) (fun x hx => by have := HZS.out.k2 x hx; omega) (fun x hx => by have := HZS.out.k2 x hx; omega))
    rw [decide_eq_true rfl] at KQ
    go_wp2_with (first
      | (go_at_call 24; have hh := HA7.out; clear hh; refine (KQ.out _ _ _ HI7.out.rd.known HA7.out).mono ?_; rintro e w8 ⟨rfl, hf8⟩; have HI8 := Lib.hid (HI7.out.next hf8.below); clear hf8)
      | (go_at_call 23; have hh := HI6.out; clear hh; refine (KR.out _ HI6.out.below).mono ?_; rintro e w7 ⟨hb7, a7, c7', rfl, hr7⟩; have HI7 := Lib.hid (HI6.out.next hb7); have HA7 := Lib.hid hr7; have m0 := HI7.out.blk.cell 0; have m1 := HI7.out.blk.cell 1; have m2 := HI7.out.blk.cell 2; have m3 := HI7.out.blk.cell 3; have m4 := HI7.out.blk.cell 4; simp only [List.getElem?_toArray, List.getElem?_cons_zero, List.getElem?_cons_succ] at m0 m1 m2 m3 m4; clear hb7 hr7)
      | (go_at_call 22; have hh := HI5.out; clear hh; refine (KS2.out _ _ _ HI5.out.below HI5.out.rd).mono ?_; rintro e w6 ⟨hb6, a6, c6', b6, d6', rfl, hk6, hn6⟩; have HI6 := Lib.hid (RunIn.mk_ (r := ⟨gk, gn, gs, gr, gd⟩) HI5.out.below hb6 hk6 hn6); clear hb6 hk6 hn6)
      | (go_at_call 11; have hh := HI4.out; clear hh; refine (KL2.out _ _ HI4.out.below HX4.out).mono ?_; rintro e w5 ⟨hb5, a5, c5', b5, d5', rfl, hk5, hn5⟩; have HI5 := Lib.hid (RunIn.mk_ (r := ⟨ek, en, es, er', ed⟩) HI4.out.below hb5 hk5 hn5); have k0 := HI5.out.blk.cell 0; have k1 := HI5.out.blk.cell 1; have k2 := HI5.out.blk.cell 2; have k3 := HI5.out.blk.cell 3; have k4 := HI5.out.blk.cell 4; simp only [List.getElem?_toArray, List.getElem?_cons_zero, List.getElem?_cons_succ] at k0 k1 k2 k3 k4; clear hb5 hk5 hn5)
      | (go_at_call 10; have hh := HI3.out; clear hh; refine (KV2.out _ _ _ HI3.out.below HI3.out.rd).mono ?_; rintro e w4 ⟨hb4, a4, c4', rfl, ho4⟩; have HI4 := Lib.hid (HI3.out.next hb4); have HX4 := Lib.hid ((ho4.read RU8.steady).more RU8.steady (S' := fun _ => True) (fun _ _ _ => trivial)); clear hb4 ho4)
      | (go_at_call 22; have hh := HI2.out; clear hh; refine (KS1.out _ _ _ HI2.out.below HI2.out.rd).mono ?_; rintro e w3 ⟨hb3, a3, c3', b3, d3', rfl, hk3, hn3⟩; have HI3 := Lib.hid (RunIn.mk_ (r := ⟨ek, en, es, er', ed⟩) HI2.out.below hb3 hk3 hn3); have j0 := HI3.out.blk.cell 0; have j1 := HI3.out.blk.cell 1; have j2 := HI3.out.blk.cell 2; have j3 := HI3.out.blk.cell 3; have j4 := HI3.out.blk.cell 4; simp only [List.getElem?_toArray, List.getElem?_cons_zero, List.getElem?_cons_succ] at j0 j1 j2 j3 j4; clear hb3 hk3 hn3)
      | (go_at_call 21; refine (KB.out _ HB1.out).mono ?_; rintro e w2 ⟨hb2, a2, c2', b2, d2', rfl, hk2, hn2⟩; have HI2 := Lib.hid (RunIn.mk_ (r := ⟨dk, dn, ds, dr, dd⟩) HB1.out hb2 hk2 hn2); have c0 := HI2.out.blk.cell 0; have c1 := HI2.out.blk.cell 1; have c2 := HI2.out.blk.cell 2; have c3 := HI2.out.blk.cell 3; have c4 := HI2.out.blk.cell 4; simp only [List.getElem?_toArray, List.getElem?_cons_zero, List.getElem?_cons_succ] at c0 c1 c2 c3 c4; clear hb2 hk2 hn2))
    go_ret
    exact ⟨ret_bool (by simp), HI8.out.below⟩
  have hal : allRun st 0 p l = ([], e3) := by rw [HAL.out, if_pos he3]
  rw [hal] at KR
  have g3 : (e3 != 0) = true := by simpa using he3
  have g4 : (e3 == e3) = true := by simp
  clear hal HAL he3
  go_wp2_with (first
    | (go_at_call 23; have hh := HI6.out; clear hh; refine (KR.out _ HI6.out.below).mono ?_; rintro e w7 ⟨hb7, a7, c7', rfl, hr7⟩; have HI7 := Lib.hid (HI6.out.next hb7); clear hb7 hr7)
    | (go_at_call 22; have hh := HI5.out; clear hh; refine (KS2.out _ _ _ HI5.out.below HI5.out.rd).mono ?_; rintro e w6 ⟨hb6, a6, c6', b6, d6', rfl, hk6, hn6⟩; have HI6 := Lib.hid (RunIn.mk_ (r := ⟨gk, gn, gs, gr, gd⟩) HI5.out.below hb6 hk6 hn6); clear hb6 hk6 hn6)
    | (go_at_call 11; have hh := HI4.out; clear hh; refine (KL2.out _ _ HI4.out.below HX4.out).mono ?_; rintro e w5 ⟨hb5, a5, c5', b5, d5', rfl, hk5, hn5⟩; have HI5 := Lib.hid (RunIn.mk_ (r := ⟨ek, en, es, er', ed⟩) HI4.out.below hb5 hk5 hn5); have k0 := HI5.out.blk.cell 0; have k1 := HI5.out.blk.cell 1; have k2 := HI5.out.blk.cell 2; have k3 := HI5.out.blk.cell 3; have k4 := HI5.out.blk.cell 4; simp only [List.getElem?_toArray, List.getElem?_cons_zero, List.getElem?_cons_succ] at k0 k1 k2 k3 k4; clear hb5 hk5 hn5)
    | (go_at_call 10; have hh := HI3.out; clear hh; refine (KV2.out _ _ _ HI3.out.below HI3.out.rd).mono ?_; rintro e w4 ⟨hb4, a4, c4', rfl, ho4⟩; have HI4 := Lib.hid (HI3.out.next hb4); have HX4 := Lib.hid ((ho4.read RU8.steady).more RU8.steady (S' := fun _ => True) (fun _ _ _ => trivial)); clear hb4 ho4)
    | (go_at_call 22; have hh := HI2.out; clear hh; refine (KS1.out _ _ _ HI2.out.below HI2.out.rd).mono ?_; rintro e w3 ⟨hb3, a3, c3', b3, d3', rfl, hk3, hn3⟩; have HI3 := Lib.hid (RunIn.mk_ (r := ⟨ek, en, es, er', ed⟩) HI2.out.below hb3 hk3 hn3); have j0 := HI3.out.blk.cell 0; have j1 := HI3.out.blk.cell 1; have j2 := HI3.out.blk.cell 2; have j3 := HI3.out.blk.cell 3; have j4 := HI3.out.blk.cell 4; simp only [List.getElem?_toArray, List.getElem?_cons_zero, List.getElem?_cons_succ] at j0 j1 j2 j3 j4; clear hb3 hk3 hn3)
    | (go_at_call 21; refine (KB.out _ HB1.out).mono ?_; rintro e w2 ⟨hb2, a2, c2', b2, d2', rfl, hk2, hn2⟩; have HI2 := Lib.hid (RunIn.mk_ (r := ⟨dk, dn, ds, dr, dd⟩) HB1.out hb2 hk2 hn2); have c0 := HI2.out.blk.cell 0; have c1 := HI2.out.blk.cell 1; have c2 := HI2.out.blk.cell 2; have c3 := HI2.out.blk.cell 3; have c4 := HI2.out.blk.cell 4; simp only [List.getElem?_toArray, List.getElem?_cons_zero, List.getElem?_cons_succ] at c0 c1 c2 c3 c4; clear hb2 hk2 hn2))
  go_ret
  exact ⟨ret_bool (by simp), HI7.out.below⟩
namespace deskResumes
theorem own : ownKnob Tryz.prog.godebug = none := by kernel_rfl

set_option maxRecDepth 100000 in
theorem contract (H : Type) (enc : TypeId × Value → H) (W : World) (base : Nat) (args : Array Value) (ds gs : List (DataW H)) (before : List MemPlace)
    (hval : ∀ (j : Nat) t v, Tryz.f7.params[j]? = some t → args[j]? = some v → Value.okWide Tryz.prog W .any base t v)
    (hW : DataW.Whole enc Tryz.prog Tryz.f7.params.toList Rows.deskResumesSpec.vars false W args.toList ds gs before) (hk : Rows.uptoSmall H (ds ++ gs) = true) :
    Calls Tryz.prog 7 args W fun e W' => ∃ v, e = .returned v ∧ Rows.deskResumesSpec.post enc Tryz.prog Tryz.f7 false true false false W args v W' := by
  have hW' := hW
  obtain ⟨p, q, hA0, hV, rfl, hfz, hnd⟩ := hW
  have hA : DataW.TrodAll enc Tryz.prog W 0 (fun _ => true) true Tryz.f7.params.toList args.toList ds p := hA0
  rw [Tryz.params7] at hA hval
  obtain ⟨v0, v1, v2, d0, d1, d2, p0, p1, p2, rfl, rfl, rfl, h0, h1, h2⟩ := trodAll_three hA
  obtain ⟨rfl, rfl⟩ := trodVars_none hV
  obtain ⟨x0, r0, s0⟩ := openRule.sliceArg Tryz.underlying23 (hval 0 23 v0 rfl rfl) h0
  obtain ⟨x1, r1, s1⟩ := openFact.sliceArg Tryz.underlying24 (hval 1 24 v1 rfl rfl) h1
  obtain ⟨x2, rfl, s2⟩ := openInt.intArg Tryz.underlying3 (hval 2 3 v2 rfl rfl) h2
  rw [List.append_nil] at hk
  have hb : Rows.uptoBulkAll [d0, d1, d2] ≤ 1048576 := of_decide_eq_true hk
  simp only [Rows.uptoBulkAll] at hb
  obtain ⟨l0, m0, k0⟩ := rules_small (p := x0) (by omega)
  have l1 := sizeL_le openFact.one x1
  have m1 : ∀ z ∈ x1, z.args.length ≤ 1048576 := fun z hz => by have h1 := sizeL_mem (size := sizeFact) hz; have h2 := sizeL_le openStr.one z.args; simp only [sizeFact] at h1; omega
  refine (deskResumesCalls x0 v0 x1 v1 x2 W r0 r1 l0 m0 k0 (by omega) m1).mono fun e W' ⟨he, hb'⟩ => ?_
  subst he
  exact ⟨_, rfl, law_post (tb := 4) hW' rfl rfl (by kernel_rfl) Tryz.underlying4 (by kernel_rfl) (by kernel_rfl) hb'⟩

set_option maxRecDepth 100000 in
theorem lifted (os : Os) (started : os.Started) (H : Type) (enc : TypeId × Value → H) (F : Stop.Interp) :
    ReturnsInHanded {} Tryz.checked os 7 .any ((Rows.OpenSpec.upto Rows.deskResumesSpec).pre6 enc Tryz.prog Tryz.f7 Rows.deskResumesUptoRow.domain false) (((Rows.OpenSpec.upto Rows.deskResumesSpec).at F).post enc Tryz.prog Tryz.f7 false true false false) := by
  refine returnsInHanded_of_cond (C := Tryz.checked) (s := Rows.OpenSpec.upto Rows.deskResumesSpec) (k := Rows.uptoSmall) rfl own started (by kernel_rfl) Tryz.func7
    (OpenSpec.witness (enc := enc) (C := Tryz.checked) (s := Rows.OpenSpec.upto Rows.deskResumesSpec) (k := Rows.uptoSmall) rfl false ⟨#[], #[.slice none 0 0, .slice none 0 0, .int .i64 0], []⟩ 8 (by kernel_rfl) (by kernel_rfl) (by kernel_rfl)
      (x := ([.nil, .nil, .lit (.int .i64 0)], [], [])) (by kernel_rfl) rfl (by kernel_rfl)) ?_
  intro W base args ds gs before hval hW _ hk _
  exact contract H enc W base args ds gs before hval hW hk

theorem proved : Rows.DeskResumesUptoSaid :=
  OpenClaim.holds_of_cond 7 Tryz.f7 rfl rfl rfl rfl rfl rfl rfl ⟨rfl, rfl, rfl, rfl, rfl⟩ rfl rfl rfl rfl rfl (by kernel_rfl) Tryz.func7 (by kernel_rfl)
    (of_decide_eq_true (by kernel_rfl)) (by unfold Func.isWrapper; first | (rw [if_pos (by decide +kernel)]; kernel_rfl) | (rw [if_neg (by decide +kernel)]; exact ⟨rfl, rfl⟩))
    (fun os started H enc _ F => lifted os started H enc F)
end deskResumes
end Go.Proofs.YtiaehkpimepbgaaGreat
