/-
  corolaw6.RoundParts ALWAYS ANSWERS TRUE: so many rounds in two parts are as many at once. For any arguments of ordinary size; without conditions.
-/
import Derived.Test.YtbbiapgkcekabaaGreatPk17
namespace Go.Proofs.YtbbiapgkcekabaaGreat
open Go.RowKit Go.ChangeShapes Go.WideShapes Go.Deep

theorem iter_small {st : List Int} {q : Int × Int} {p : List PRule} (n2 : ∀ r ∈ p, RuleSmall r) : ∀ {k : Nat} {r : PRun}, RunSmall r → RunSmall (iterP st q.1 p k r).1
  | 0, r, h => h
  | k + 1, r, h => by
    rw [iterP]
    split
    · exact h
    split
    · exact zero_small
    · exact iter_small n2 (step_small n2 h)
theorem steps_small {st : List Int} {q : Int × Int} {p : List PRule} (n2 : ∀ r ∈ p, RuleSmall r) {r : PRun} {n : Int} (h : RunSmall r) : RunSmall (stepsRun st q.1 p r n).1 := by
  unfold stepsRun
  split
  · exact zero_small
  split
  · exact zero_small
  · exact iter_small n2 h

set_option maxRecDepth 100000 in
set_option maxHeartbeats 8000000 in
theorem roundPartsCalls {S S2 : Nat → Prop} (p : List PRule) (v : Value) (l : List PFact) (fv : Value) (n m : Int) (w : World) (h : RdRules S w v p) (hf : RdFacts S2 w fv l)
    (n1 : p.length ≤ 1048576) (n2 : ∀ r ∈ p, RuleSmall r) (n3 : ∀ r ∈ p, NameSmall r) (n4 : l.length ≤ 1048576) (n5 : ∀ x ∈ l, x.args.length ≤ 1048576) :
    Calls Tryz.prog 10 #[v, fv, .int .i64 n, .int .i64 m] w fun e w' => e = .returned (.bool true) ∧ Below w.heap.size w w' := by
  obtain ⟨a, c, rfl, -, -, -⟩ := id h.form
  obtain ⟨fa, fc, rfl, -, -, -⟩ := id hf.form
  obtain ⟨st, q, hS⟩ := exists_strata p
  have KA := Lib.hid (alive6Calls w)
  have KB := Lib.hid (fun W (hW : Below w.heap.size w W) => beginCalls p _ _ st q l W hS (h.up hW) (hf.up hW) n1 n2 n3 n4 n5)
  have KS := Lib.hid (fun W kv nv (r : PRun) (k : Int) (hW : Below w.heap.size w W) (hr : RunRd W r kv nv) hs => stepsRunCalls p (.slice a p.length c) st q r kv nv k W hS (h.up hW) hr n1 n2 n3 hs)
  have HSM := Lib.hid (fun (r : PRun) k hs => steps_small (st := st) (q := q) (p := p) n2 (r := r) (n := k) hs)
  have HBS := Lib.hid (begin_small (st := st) (q := q.1) (p := p) n4 n5)
  have HOK := Lib.hid (fun h => begin_ok hS (l := l) h)
  have HRU := Lib.hid (fun h => (strata_count hS h).1)
  clear h hf n2 n3 n5 hS
  go_enter Tryz.func10, Tryz.ntmps10
  go_wp2_with (go_at_call 46; refine (KA.out).mono ?_; rintro e w1 ⟨rfl, hb1⟩; have HB1 := Lib.hid hb1; clear hb1)
  clear KA
  by_cases he : (beginP st q.1 p l).2 = 0
  case neg =>
    clear HOK HRU HSM KS HBS
    generalize beginP st q.1 p l = x at *
    obtain ⟨⟨dk, dn, ds, dr, dd⟩, er⟩ := x
    dsimp only at *
    have g1 : (er != 0) = true := by simpa using he
    clear he
    go_wp2_with (go_at_call 27; refine (KB.out _ HB1.out).mono ?_; rintro e w2 ⟨hb2, a2, c2, b2, d2, rfl, hk2, hn2⟩; have HI2 := Lib.hid (RunIn.mk_ (r := ⟨dk, dn, ds, dr, dd⟩) HB1.out hb2 hk2 hn2); clear hb2 hk2 hn2)
    go_ret
    exact ⟨rfl, HI2.out.below⟩
  obtain ⟨hq, -, -, hok⟩ := HOK.out he
  have HR := Lib.hid hok
  have HRL := Lib.hid (HRU.out hq)
  clear hok HOK HRU
  obtain ⟨q1, q2⟩ := q
  dsimp only at hq
  subst hq
  dsimp only at *
  generalize beginP st 0 p l = x at *
  obtain ⟨⟨dk, dn, ds, dr, dd⟩, er⟩ := x
  dsimp only at *
  subst he
  by_cases hrg : n < 0 ∨ m < 0 ∨ 100 < n ∨ 100 < m
  · have hcs : n < 0 ∨ ¬ n < 0 ∧ (m < 0 ∨ ¬ m < 0 ∧ (100 < n ∨ ¬ 100 < n ∧ 100 < m)) := by omega
    clear hrg KS HSM HR HRL
    rcases hcs with h1 | ⟨h1, h2 | ⟨h2, h3 | ⟨h3, h4⟩⟩⟩
    all_goals
      go_wp2_with (go_at_call 27; refine (KB.out _ HB1.out).mono ?_; rintro e w2 ⟨hb2, a2, c2, b2, d2, rfl, hk2, hn2⟩; have HI2 := Lib.hid (RunIn.mk_ (r := ⟨dk, dn, ds, dr, dd⟩) HB1.out hb2 hk2 hn2); clear hb2 hk2 hn2)
      go_ret
      exact ⟨rfl, HI2.out.below⟩
  have h1 : ¬ n < 0 := fun h => hrg (.inl h)
  have h2 : ¬ m < 0 := fun h => hrg (.inr (.inl h))
  have h3 : ¬ 100 < n := fun h => hrg (.inr (.inr (.inl h)))
  have h4 : ¬ 100 < m := fun h => hrg (.inr (.inr (.inr h)))
  clear hrg
  have hwr : IntKind.i64.wrap (n + m) = n + m := by rw [IntKind.wrap_i64]; omega
  have HPA := Lib.hid (fun he => (steps_parts HRL.out HR.out (n := n) (m := m) (by omega) (by omega) (by omega) (by omega) he).2)
  have KS1 := Lib.hid (fun W kv nv hW hr => KS.out W kv nv ⟨dk, dn, ds, dr, dd⟩ n hW hr HBS.out)
  have KS3 := Lib.hid (fun W kv nv hW hr => KS.out W kv nv ⟨dk, dn, ds, dr, dd⟩ (n + m) hW hr HBS.out)
  have HYS := Lib.hid (HSM.out ⟨dk, dn, ds, dr, dd⟩ n HBS.out)
  have HZS := Lib.hid (HSM.out ⟨dk, dn, ds, dr, dd⟩ (n + m) HBS.out)
  have KS2 := Lib.hid (fun W kv nv hW hr => KS.out W kv nv (stepsRun st 0 p ⟨dk, dn, ds, dr, dd⟩ n).1 m hW hr HYS.out)
  clear KS HSM HRL HR HBS
  generalize hY : stepsRun st 0 p ⟨dk, dn, ds, dr, dd⟩ n = y at *
  clear hY
  obtain ⟨⟨ek, en, es, er', ed⟩, e2⟩ := y
  dsimp only at *
  by_cases he : e2 = 0
  case neg =>
    have g1 : (e2 != 0) = true := by simpa using he
    clear he HPA KS2 KS3 HZS
    go_wp2_with (first
      | (go_at_call 34; have hh := HI2.out; clear hh; refine (KS1.out _ _ _ HI2.out.below HI2.out.rd).mono ?_; rintro e w3 ⟨hb3, a3, c3, b3, d3, rfl, hk3, hn3⟩; have HI3 := Lib.hid (RunIn.mk_ (r := ⟨ek, en, es, er', ed⟩) HI2.out.below hb3 hk3 hn3); clear hb3 hk3 hn3)
      | (go_at_call 27; refine (KB.out _ HB1.out).mono ?_; rintro e w2 ⟨hb2, a2, c2, b2, d2, rfl, hk2, hn2⟩; have HI2 := Lib.hid (RunIn.mk_ (r := ⟨dk, dn, ds, dr, dd⟩) HB1.out hb2 hk2 hn2); have c0 := HI2.out.blk.cell 0; have c1 := HI2.out.blk.cell 1; have c2 := HI2.out.blk.cell 2; have c3 := HI2.out.blk.cell 3; have c4 := HI2.out.blk.cell 4; simp only [List.getElem?_toArray, List.getElem?_cons_zero, List.getElem?_cons_succ] at c0 c1 c2 c3 c4; clear hb2 hk2 hn2))
    go_ret
    exact ⟨rfl, HI3.out.below⟩
  subst he
  have hpa := HPA.out rfl
  rw [hpa] at KS2
  clear hpa HPA
  generalize stepsRun st 0 p ⟨dk, dn, ds, dr, dd⟩ (n + m) = z at *
  obtain ⟨⟨gk, gn, gs, gr, gd⟩, e3⟩ := z
  dsimp only at *
  have g5 : decide (e3 = e3) = true := decide_eq_true rfl
  go_wp2_with (first
    | (go_at_call 29; have hh := HI5.out; clear hh; refine (sameRunRefl ⟨gk, gn, gs, gr, gd⟩ _ _ _ _ _ HY5.out.rd HI5.out.rd HZS.out).mono ?_; rintro e w6 ⟨rfl, hb6⟩; have HB6 := Lib.hid (HI5.out.next hb6); clear hb6)
    | (go_at_call 34; have hh := HI4.out; clear hh; refine (KS3.out _ _ _ HX4.out.below HX4.out.rd).mono ?_; rintro e w5 ⟨hb5, a5, c5, b5, d5, rfl, hk5, hn5⟩; have HY5 := Lib.hid ((HI4.out.next hb5).alloc (.cells #[.slice a5 gk.length c5, .slice b5 gn.length d5, .int .i64 gs, .int .i64 gr, .bool gd] 47)); have HI5 := Lib.hid (RunIn.mk_ (r := ⟨gk, gn, gs, gr, gd⟩) HI4.out.below hb5 hk5 hn5); have k0 := HY5.out.blk.cell 0; have k1 := HY5.out.blk.cell 1; have k2 := HY5.out.blk.cell 2; have k3 := HY5.out.blk.cell 3; have k4 := HY5.out.blk.cell 4; simp only [List.getElem?_toArray, List.getElem?_cons_zero, List.getElem?_cons_succ] at k0 k1 k2 k3 k4; have y0 := HI5.out.blk.cell 0; have y1 := HI5.out.blk.cell 1; have y2 := HI5.out.blk.cell 2; have y3 := HI5.out.blk.cell 3; have y4 := HI5.out.blk.cell 4; simp only [List.getElem?_toArray, List.getElem?_cons_zero, List.getElem?_cons_succ] at y0 y1 y2 y3 y4; clear hb5 hk5 hn5)
    | (go_at_call 34; have hh := HI3.out; clear hh; refine (KS2.out _ _ _ HI3.out.below HI3.out.rd).mono ?_; rintro e w4 ⟨hb4, a4, c4', b4, d4, rfl, hk4, hn4⟩; have HX4 := Lib.hid ((HX3.out.next hb4).alloc (.cells #[.slice a4 gk.length c4', .slice b4 gn.length d4, .int .i64 gs, .int .i64 gr, .bool gd] 47)); have HI4 := Lib.hid (RunIn.mk_ (r := ⟨gk, gn, gs, gr, gd⟩) HI3.out.below hb4 hk4 hn4); have j0 := HX4.out.blk.cell 0; have j1 := HX4.out.blk.cell 1; have j2 := HX4.out.blk.cell 2; have j3 := HX4.out.blk.cell 3; have j4 := HX4.out.blk.cell 4; simp only [List.getElem?_toArray, List.getElem?_cons_zero, List.getElem?_cons_succ] at j0 j1 j2 j3 j4; clear hb4 hk4 hn4)
    | (go_at_call 34; have hh := HI2.out; clear hh; refine (KS1.out _ _ _ HI2.out.below HI2.out.rd).mono ?_; rintro e w3 ⟨hb3, a3, c3', b3, d3, rfl, hk3, hn3⟩; have HX3 := Lib.hid ((HI2.out.next hb3).alloc (.cells #[.slice a3 ek.length c3', .slice b3 en.length d3, .int .i64 es, .int .i64 er', .bool ed] 47)); have HI3 := Lib.hid (RunIn.mk_ (r := ⟨ek, en, es, er', ed⟩) HI2.out.below hb3 hk3 hn3); have i0 := HI3.out.blk.cell 0; have i1 := HI3.out.blk.cell 1; have i2 := HI3.out.blk.cell 2; have i3 := HI3.out.blk.cell 3; have i4 := HI3.out.blk.cell 4; simp only [List.getElem?_toArray, List.getElem?_cons_zero, List.getElem?_cons_succ] at i0 i1 i2 i3 i4; clear hb3 hk3 hn3)
    | (go_at_call 27; refine (KB.out _ HB1.out).mono ?_; rintro e w2 ⟨hb2, a2, c2', b2, d2, rfl, hk2, hn2⟩; have HI2 := Lib.hid (RunIn.mk_ (r := ⟨dk, dn, ds, dr, dd⟩) HB1.out hb2 hk2 hn2); have c0 := HI2.out.blk.cell 0; have c1 := HI2.out.blk.cell 1; have c2 := HI2.out.blk.cell 2; have c3 := HI2.out.blk.cell 3; have c4 := HI2.out.blk.cell 4; simp only [List.getElem?_toArray, List.getElem?_cons_zero, List.getElem?_cons_succ] at c0 c1 c2 c3 c4; clear hb2 hk2 hn2))
  go_ret
  exact ⟨ret_bool (by simp), HB6.out.below⟩
namespace roundParts
theorem own : ownKnob Tryz.prog.godebug = none := by kernel_rfl

set_option maxRecDepth 100000 in
theorem contract (H : Type) (enc : TypeId × Value → H) (W : World) (base : Nat) (args : Array Value) (ds gs : List (DataW H)) (before : List MemPlace)
    (hval : ∀ (j : Nat) t v, Tryz.f10.params[j]? = some t → args[j]? = some v → Value.okWide Tryz.prog W .any base t v)
    (hW : DataW.Whole enc Tryz.prog Tryz.f10.params.toList Rows.roundPartsSpec.vars false W args.toList ds gs before) (hk : Rows.uptoSmall H (ds ++ gs) = true) :
    Calls Tryz.prog 10 args W fun e W' => ∃ v, e = .returned v ∧ Rows.roundPartsSpec.post enc Tryz.prog Tryz.f10 false true false false W args v W' := by
  have hW' := hW
  obtain ⟨p, q, hA0, hV, rfl, hfz, hnd⟩ := hW
  have hA : DataW.TrodAll enc Tryz.prog W 0 (fun _ => true) true Tryz.f10.params.toList args.toList ds p := hA0
  rw [Tryz.params10] at hA hval
  obtain ⟨v0, v1, v2, v3, d0, d1, d2, d3, p0, p1, p2, p3, rfl, rfl, rfl, h0, h1, h2, h3⟩ := trodAll_four hA
  obtain ⟨rfl, rfl⟩ := trodVars_none hV
  obtain ⟨x0, r0, s0⟩ := openRule.sliceArg Tryz.underlying23 (hval 0 23 v0 rfl rfl) h0
  obtain ⟨x1, r1, s1⟩ := openFact.sliceArg Tryz.underlying24 (hval 1 24 v1 rfl rfl) h1
  obtain ⟨x2, rfl, s2⟩ := openInt.intArg Tryz.underlying3 (hval 2 3 v2 rfl rfl) h2
  obtain ⟨x3, rfl, s3⟩ := openInt.intArg Tryz.underlying3 (hval 3 3 v3 rfl rfl) h3
  rw [List.append_nil] at hk
  have hb : Rows.uptoBulkAll [d0, d1, d2, d3] ≤ 1048576 := of_decide_eq_true hk
  simp only [Rows.uptoBulkAll] at hb
  obtain ⟨l0, m0, k0⟩ := rules_small (p := x0) (by omega)
  have l1 := sizeL_le openFact.one x1
  have m1 : ∀ z ∈ x1, z.args.length ≤ 1048576 := fun z hz => by have h1 := sizeL_mem (size := sizeFact) hz; have h2 := sizeL_le openStr.one z.args; simp only [sizeFact] at h1; omega
  refine (roundPartsCalls x0 v0 x1 v1 x2 x3 W r0 r1 l0 m0 k0 (by omega) m1).mono fun e W' ⟨he, hb'⟩ => ?_
  subst he
  exact ⟨_, rfl, law_post (tb := 4) hW' rfl rfl (by kernel_rfl) Tryz.underlying4 (by kernel_rfl) (by kernel_rfl) hb'⟩

set_option maxRecDepth 100000 in
theorem lifted (os : Os) (started : os.Started) (H : Type) (enc : TypeId × Value → H) (F : Stop.Interp) :
    ReturnsInHanded {} Tryz.checked os 10 .any ((Rows.OpenSpec.upto Rows.roundPartsSpec).pre6 enc Tryz.prog Tryz.f10 Rows.roundPartsUptoRow.domain false) (((Rows.OpenSpec.upto Rows.roundPartsSpec).at F).post enc Tryz.prog Tryz.f10 false true false false) := by
  refine returnsInHanded_of_cond (C := Tryz.checked) (s := Rows.OpenSpec.upto Rows.roundPartsSpec) (k := Rows.uptoSmall) rfl own started (by kernel_rfl) Tryz.func10
    (OpenSpec.witness (enc := enc) (C := Tryz.checked) (s := Rows.OpenSpec.upto Rows.roundPartsSpec) (k := Rows.uptoSmall) rfl false ⟨#[], #[.slice none 0 0, .slice none 0 0, .int .i64 0, .int .i64 0], []⟩ 8 (by kernel_rfl) (by kernel_rfl) (by kernel_rfl)
      (x := ([.nil, .nil, .lit (.int .i64 0), .lit (.int .i64 0)], [], [])) (by kernel_rfl) rfl (by kernel_rfl)) ?_
  intro W base args ds gs before hval hW _ hk _
  exact contract H enc W base args ds gs before hval hW hk

theorem proved : Rows.RoundPartsUptoSaid :=
  OpenClaim.holds_of_cond 10 Tryz.f10 rfl rfl rfl rfl rfl rfl rfl ⟨rfl, rfl, rfl, rfl, rfl⟩ rfl rfl rfl rfl rfl (by kernel_rfl) Tryz.func10 (by kernel_rfl)
    (of_decide_eq_true (by kernel_rfl)) (by unfold Func.isWrapper; first | (rw [if_pos (by decide +kernel)]; kernel_rfl) | (rw [if_neg (by decide +kernel)]; exact ⟨rfl, rfl⟩))
    (fun os started H enc _ F => lifted os started H enc F)
end roundParts
end Go.Proofs.YtbbiapgkcekabaaGreat
