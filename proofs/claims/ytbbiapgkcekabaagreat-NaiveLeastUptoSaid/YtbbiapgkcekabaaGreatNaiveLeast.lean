/-
  corolaw5.NaiveLeast ALWAYS ANSWERS TRUE: told more there is no less; told what follows nothing more follows: of a program that asks for nothing not to be so. For any arguments of ordinary size; without conditions.
-/
import Derived.Test.YtbbiapgkcekabaaGreatPk15
namespace Go.Proofs.YtbbiapgkcekabaaGreat
open Go.RowKit Go.ChangeShapes Go.WideShapes Go.Deep

theorem plain_none (p : List PRule) : Plain (p.take 0) := fun r hr => by simp at hr
theorem plain_snoc {p : List PRule} {k : Nat} {x : PRule} (h : Plain (p.take k)) (hx : p[k]? = some x) (hb : ∀ a ∈ x.body, a.neg = false) : Plain (p.take (k + 1)) := fun r hr => by
  rw [List.take_add_one, hx] at hr
  rcases List.mem_append.1 hr with hr | hr
  · exact h r hr
  · obtain rfl : r = x := by simpa using hr
    exact hb
/-- What the law asks at last. -/
theorem least_or {p : List PRule} (hp : Plain p) {l more : List PFact} {st : List Int} {q : Int × Int} (hs : StrataIs p st q) (h1 : (naiveP st q.1 p l).2 = 0) (h2 : (naiveP st q.1 p (joinF l more)).2 = 0) :
    (∀ x ∈ (naiveP st q.1 p l).1, x ∈ (naiveP st q.1 p (joinF l more)).1) ∧ Good (naiveP st q.1 p l).1 ∧ Good (naiveP st q.1 p (joinF l more)).1 ∧
      (naiveP st q.1 p (naiveP st q.1 p l).1 = ((naiveP st q.1 p l).1, 0) ∨ naiveP st q.1 p (naiveP st q.1 p l).1 = ([], 4)) := by
  have hF := (naive_follows hs h1).1
  have hG := (naive_follows hs h2).1
  exact ⟨naive_least hp hs h1 (fun x hx => hG.sub x ((mem_joinF _ _ x).2 (.inl hx))) hG.closed, ⟨hF.rise, hF.len, hF.good⟩, ⟨hG.rise, hG.len, hG.good⟩, naive_again hs h1⟩

attribute [local go_sem ↓] Go.wp_at_zero Go.wp_at_succ
set_option maxRecDepth 100000 in
set_option maxHeartbeats 8000000 in
theorem naiveLeastCalls {S S2 S3 : Nat → Prop} (p : List PRule) (v : Value) (l : List PFact) (fv : Value) (more : List PFact) (mv : Value) (w : World) (h : RdRules S w v p) (hf : RdFacts S2 w fv l) (hg : RdFacts S3 w mv more)
    (n1 : p.length ≤ 1048576) (n2 : ∀ r ∈ p, RuleSmall r) (n3 : ∀ r ∈ p, NameSmall r) (n4 : l.length + more.length ≤ 1048576) (n5 : ∀ x ∈ l, x.args.length ≤ 1048576) (n6 : ∀ x ∈ more, x.args.length ≤ 1048576) :
    Calls Tryz.prog 9 #[v, fv, mv] w fun e w' => e = .returned (.bool true) ∧ Below w.heap.size w w' := by
  obtain ⟨a, c, rfl, -, -, -⟩ := id h.form
  obtain ⟨fa, fc, rfl, -, -, -⟩ := id hf.form
  obtain ⟨ma, mc, rfl, -, -, -⟩ := id hg.form
  obtain ⟨st, q, hS⟩ := exists_strata p
  have KA := Lib.hid (alive5Calls w)
  have KN := Lib.hid (fun W gv (g : List PFact) (hW : Below w.heap.size w W) (hr : RdFacts (fun _ => True) W gv g) h1 h2 => naiveReads p (.slice a p.length c) gv st q g W hS (h.up hW) hr n1 n2 n3 h1 h2)
  have KJ := Lib.hid (fun W (hW : Below w.heap.size w W) => joinReads (va := .slice fa l.length fc) (vb := .slice ma more.length mc) (w := W) (hf.up hW) (hg.up hW) (by omega) (by omega) n5 n6)
  have HJL := Lib.hid (show (joinF l more).length ≤ 1048576 by
    have := ofF_length (l ++ more)
    rw [List.length_append] at this
    have h2 : (joinF l more).length = (ofF (l ++ more)).length := rfl
    omega)
  have HJA := Lib.hid (show ∀ x ∈ joinF l more, x.args.length ≤ 1048576 from fun x hx => by
    rcases (mem_joinF _ _ x).1 hx with h | h
    · exact n5 x h
    · exact n6 x h)
  have H := Lib.hid h
  have HFA := Lib.hid hf
  have N2 := Lib.hid n2
  have N5 := Lib.hid n5
  have nl : l.length ≤ 1048576 := by omega
  have HLO := Lib.hid (fun hp => least_or (p := p) hp (l := l) (more := more) hS)
  clear h hf hg n2 n3 n5 n6 hS
  go_enter Tryz.func9, Tryz.ntmps9
  go_wp2_with (go_at_call 36; refine (KA.out).mono ?_; rintro e w1 ⟨rfl, hb1⟩; have HB1 := Lib.hid hb1; clear hb1)
  clear KA
  obtain ⟨wo, hwo⟩ : ∃ wo : World, wo = w1 := ⟨_, rfl⟩
  subst hwo
  have HBO := Lib.hid (Below.refl wo.heap.size wo)
  have HPN := Lib.hid (plain_none p)
  go_loopw [21] (fun i wr => ∃ (k : Nat), k ≤ p.length ∧ i = .int .i64 k ∧ Hid (Plain (p.take k)) ∧ Hid (Below wo.heap.size wo wr)) (fun i _ => p.length - (intOf i).toNat)
  case atStart => exact ⟨0, Nat.zero_le _, rfl, HPN, HBO⟩
  case round =>
    clear HBO HPN
    obtain ⟨k, hk, rfl, HP, HB⟩ := hrel
    have HBW := Lib.hid (HB1.out.trans (HB.out.mono (Below.size HB1.out)))
    by_cases hlt : k < p.length
    · obtain ⟨x, hx⟩ : ∃ x, p[k]? = some x := ⟨_, List.getElem?_eq_getElem hlt⟩
      obtain ⟨b1, o1, ta, tc, ba, bc, rfl, hra⟩ := H.out.pick hx
      have HRA := Lib.hid hra
      have HBX := Lib.hid (HB.out.alloc (Below.size HB.out) (.cells #[.bool x.head.neg, .string x.head.name, .slice ta x.head.terms.length tc, .slice ba x.body.length bc] 43))
      obtain ⟨-, d0, d1, d2, d3, -, -⟩ := HRA.out.up HBW.out
      have HSN := Lib.hid (fun hb => plain_snoc HP.out hx hb)
      have hbl := (N2.out x (List.mem_of_getElem? hx)).b0
      clear hx hra
      go_wp2
      clear d0 d1 d2 d3
      go_loopw [28] (fun i wr => ∃ (j : Nat), j ≤ x.body.length ∧ i = .int .i64 j ∧ Hid (∀ a ∈ x.body.take j, a.neg = false) ∧ Hid (Below wo.heap.size wo wr)) (fun i _ => x.body.length - (intOf i).toNat)
      case atStart => exact ⟨0, Nat.zero_le _, rfl, Lib.hid (by simp), HBX⟩
      case round =>
        clear HBX HB HBW
        obtain ⟨j, hj, rfl, HA, HB⟩ := hrel
        have HBW := Lib.hid (HB1.out.trans (HB.out.mono (Below.size HB1.out)))
        by_cases hlj : j < x.body.length
        · obtain ⟨y, hy⟩ : ∃ y, x.body[j]? = some y := ⟨_, List.getElem?_eq_getElem hlj⟩
          obtain ⟨b4, o4, yv, rfl, -, -, e0, e1, e2, hyv⟩ := RdAtoms.at (HRA.out.up HBW.out).b hy
          obtain ⟨ya, yc, rfl, -, -, -⟩ := id hyv.form
          have HB6 := Lib.hid (HB.out.alloc (Below.size HB.out) (.cells #[.bool y.neg, .string y.name, .slice ya y.terms.length yc] 40))
          have HA1 := Lib.hid (show y.neg = false → ∀ a ∈ x.body.take (j + 1), a.neg = false from fun h a ha => by
            rw [List.take_add_one, hy] at ha
            rcases List.mem_append.1 ha with ha | ha
            · exact HA.out a ha
            · obtain rfl : a = y := by simpa using ha
              exact h)
          clear hy hyv
          cases hn : y.neg
          · rw [hn] at e0 HB6
            have HA2 := Lib.hid (HA1.out hn)
            clear hn HA1
            go_wp2
            go_roundw
            case rel => exact ⟨j + 1, by omega, by go_num, HA2, HB6⟩
            case measure => simp [intOf]; omega
          · rw [hn] at e0 HB6
            clear hn HA1
            go_wp2
            go_ret
            exact ⟨rfl, HB1.out.trans (HB6.out.mono (Below.size HB1.out))⟩
        · have HP2 := Lib.hid (HSN.out (by have := HA.out; rwa [List.take_of_length_le (by omega)] at this))
          go_wp2
          go_roundw
          case rel => exact ⟨k + 1, by omega, by go_num, HP2, HB⟩
          case measure => simp [intOf]; omega
    · have HLO2 := Lib.hid (HLO.out (by have := HP.out; rwa [List.take_of_length_le (by omega)] at this))
      clear HP HLO H N2
      have KN1 := Lib.hid (fun W gv hW hr => KN.out W gv l hW hr nl N5.out)
      have KN2 := Lib.hid (fun W gv hW hr => KN.out W gv (joinF l more) hW hr HJL.out HJA.out)
      have KN3 := Lib.hid (fun W gv hW hr h1 h2 => KN.out W gv (naiveP st q.1 p l).1 hW hr h1 h2)
      generalize naiveP st q.1 p (joinF l more) = r2 at *
      generalize joinF l more = jl at *
      obtain ⟨n, e1⟩ := r2
      by_cases he0 : (naiveP st q.1 p l).2 = 0
      case neg =>
        have g1 : ((naiveP st q.1 p l).2 != 0) = true := by simpa using he0
        clear he0 HLO2 KN KN3
        generalize naiveP st q.1 p l = r1 at *
        obtain ⟨m, e0⟩ := r1
        dsimp only at *
        go_wp2_with (first
          | (go_at_call 17; have hh := HJ3.out; clear hh; refine (KN2.out _ _ HB3.out HJ3.out).mono ?_; rintro e w4 ⟨⟨a4, c4, rfl, hr4⟩, hb4⟩; have HB4 := Lib.hid (HB3.out.trans (hb4.mono (Below.size HB3.out))); clear hr4 hb4)
          | (go_at_call 38; have hh := HB2.out; clear hh; refine (KJ.out _ HB2.out).mono ?_; rintro e w3 ⟨⟨a3, c3, rfl, hr3⟩, hb3⟩; have HJ3 := Lib.hid hr3; have HB3 := Lib.hid (HB2.out.trans (hb3.mono (Below.size HB2.out))); clear hr3 hb3)
          | (go_at_call 17; refine (KN1.out _ _ HBW.out (HFA.out.up HBW.out)).mono ?_; rintro e w2 ⟨⟨a2, c2, rfl, hr2⟩, hb2⟩; have HB2 := Lib.hid (HBW.out.trans (hb2.mono (Below.size HBW.out))); clear hr2 hb2))
        go_ret
        exact ⟨rfl, HB4.out⟩
      by_cases he1 : e1 = 0
      case neg =>
        have g1 : (e1 != 0) = true := by simpa using he1
        clear he1 HLO2 KN KN3
        generalize naiveP st q.1 p l = r1 at *
        obtain ⟨m, e0⟩ := r1
        dsimp only at *
        subst he0
        go_wp2_with (first
          | (go_at_call 17; have hh := HJ3.out; clear hh; refine (KN2.out _ _ HB3.out HJ3.out).mono ?_; rintro e w4 ⟨⟨a4, c4, rfl, hr4⟩, hb4⟩; have HB4 := Lib.hid (HB3.out.trans (hb4.mono (Below.size HB3.out))); clear hr4 hb4)
          | (go_at_call 38; have hh := HB2.out; clear hh; refine (KJ.out _ HB2.out).mono ?_; rintro e w3 ⟨⟨a3, c3, rfl, hr3⟩, hb3⟩; have HJ3 := Lib.hid hr3; have HB3 := Lib.hid (HB2.out.trans (hb3.mono (Below.size HB2.out))); clear hr3 hb3)
          | (go_at_call 17; refine (KN1.out _ _ HBW.out (HFA.out.up HBW.out)).mono ?_; rintro e w2 ⟨⟨a2, c2, rfl, hr2⟩, hb2⟩; have HB2 := Lib.hid (HBW.out.trans (hb2.mono (Below.size HBW.out))); clear hr2 hb2))
        go_ret
        exact ⟨rfl, HB4.out⟩
      subst he1
      obtain ⟨hsub, hG, hGn, hag⟩ := HLO2.out he0 rfl
      have HSUB := Lib.hid hsub
      have hgl := hG.len
      have hgn := hGn.len
      have HGA := Lib.hid (good_args hG.fine)
      have HNA := Lib.hid (good_args hGn.fine)
      have HNR := Lib.hid hGn.rise
      have KN4 := Lib.hid (fun W gv hW hr => KN3.out W gv hW hr (by omega) HGA.out)
      clear hsub hG hGn HLO2 KN KN3
      dsimp only at *
      rcases hag with hag | hag
      · rw [hag] at KN4
        clear hag
        generalize naiveP st q.1 p l = r1 at *
        obtain ⟨m, e0⟩ := r1
        dsimp only at *
        subst he0
        have KS := Lib.hid (fun W va vb (h1 : RdFacts (fun _ => True) W va m) (h2 : RdFacts (fun _ => True) W vb m) => sameRef va vb m m W h1 h2 (by omega) (fun x hx => by have := HGA.out x hx; omega) (fun x hx => by have := HGA.out x hx; omega))
        go_wp2_with (first
          | (go_at_call 19; refine (KS.out _ _ _ HQ6.out HM6.out).mono ?_; rintro e w7 ⟨rfl, hf7⟩; have HB7 := Lib.hid (HB6.out.trans (hf7.below.mono (Below.size HB6.out))); clear hf7)
          | (go_at_call 44; have hh := HM5.out; clear hh; refine (lessNone HSUB.out HM5.out HN5.out HNR.out (by omega) HGA.out (by omega) HNA.out).mono ?_; rintro e w6 ⟨⟨a6, c6, rfl⟩, hb6⟩; have HM6 := Lib.hid (HM5.out.up hb6); have HQ6 := Lib.hid (HQ5.out.up hb6); have HB6 := Lib.hid (HB5.out.trans (hb6.mono (Below.size HB5.out))); clear hb6)
          | (go_at_call 17; have hh := HN4.out; clear hh; refine (KN4.out _ _ HB4.out HM4.out).mono ?_; rintro e w5 ⟨⟨a5, c5, rfl, hr5⟩, hb5⟩; have HQ5 := Lib.hid hr5; have HM5 := Lib.hid (HM4.out.up hb5); have HN5 := Lib.hid (HN4.out.up hb5); have HB5 := Lib.hid (HB4.out.trans (hb5.mono (Below.size HB4.out))); clear hr5 hb5)
          | (go_at_call 17; have hh := HJ3.out; clear hh; refine (KN2.out _ _ HB3.out HJ3.out).mono ?_; rintro e w4 ⟨⟨a4, c4, rfl, hr4⟩, hb4⟩; have HN4 := Lib.hid hr4; have HM4 := Lib.hid (HM3.out.up hb4); have HB4 := Lib.hid (HB3.out.trans (hb4.mono (Below.size HB3.out))); clear hr4 hb4)
          | (go_at_call 38; have hh := HB2.out; clear hh; refine (KJ.out _ HB2.out).mono ?_; rintro e w3 ⟨⟨a3, c3, rfl, hr3⟩, hb3⟩; have HJ3 := Lib.hid hr3; have HM3 := Lib.hid (HM2.out.up hb3); have HB3 := Lib.hid (HB2.out.trans (hb3.mono (Below.size HB2.out))); clear hr3 hb3)
          | (go_at_call 17; refine (KN1.out _ _ HBW.out (HFA.out.up HBW.out)).mono ?_; rintro e w2 ⟨⟨a2, c2, rfl, hr2⟩, hb2⟩; have HM2 := Lib.hid hr2; have HB2 := Lib.hid (HBW.out.trans (hb2.mono (Below.size HBW.out))); clear hr2 hb2))
        go_ret
        exact ⟨ret_bool (by simp), HB7.out⟩
      · rw [hag] at KN4
        clear hag
        generalize naiveP st q.1 p l = r1 at *
        obtain ⟨m, e0⟩ := r1
        dsimp only at *
        subst he0
        go_wp2_with (first
          | (go_at_call 44; have hh := HM5.out; clear hh; refine (lessNone HSUB.out HM5.out HN5.out HNR.out (by omega) HGA.out (by omega) HNA.out).mono ?_; rintro e w6 ⟨⟨a6, c6, rfl⟩, hb6⟩; have HB6 := Lib.hid (HB5.out.trans (hb6.mono (Below.size HB5.out))); clear hb6)
          | (go_at_call 17; have hh := HN4.out; clear hh; refine (KN4.out _ _ HB4.out HM4.out).mono ?_; rintro e w5 ⟨⟨a5, c5, rfl, hr5⟩, hb5⟩; have HM5 := Lib.hid (HM4.out.up hb5); have HN5 := Lib.hid (HN4.out.up hb5); have HB5 := Lib.hid (HB4.out.trans (hb5.mono (Below.size HB4.out))); clear hr5 hb5)
          | (go_at_call 17; have hh := HJ3.out; clear hh; refine (KN2.out _ _ HB3.out HJ3.out).mono ?_; rintro e w4 ⟨⟨a4, c4, rfl, hr4⟩, hb4⟩; have HN4 := Lib.hid hr4; have HM4 := Lib.hid (HM3.out.up hb4); have HB4 := Lib.hid (HB3.out.trans (hb4.mono (Below.size HB3.out))); clear hr4 hb4)
          | (go_at_call 38; have hh := HB2.out; clear hh; refine (KJ.out _ HB2.out).mono ?_; rintro e w3 ⟨⟨a3, c3, rfl, hr3⟩, hb3⟩; have HJ3 := Lib.hid hr3; have HM3 := Lib.hid (HM2.out.up hb3); have HB3 := Lib.hid (HB2.out.trans (hb3.mono (Below.size HB2.out))); clear hr3 hb3)
          | (go_at_call 17; refine (KN1.out _ _ HBW.out (HFA.out.up HBW.out)).mono ?_; rintro e w2 ⟨⟨a2, c2, rfl, hr2⟩, hb2⟩; have HM2 := Lib.hid hr2; have HB2 := Lib.hid (HBW.out.trans (hb2.mono (Below.size HBW.out))); clear hr2 hb2))
        go_ret
        exact ⟨rfl, HB6.out⟩
namespace naiveLeast
theorem own : ownKnob Tryz.prog.godebug = none := by kernel_rfl

set_option maxRecDepth 100000 in
theorem contract (H : Type) (enc : TypeId × Value → H) (W : World) (base : Nat) (args : Array Value) (ds gs : List (DataW H)) (before : List MemPlace)
    (hval : ∀ (j : Nat) t v, Tryz.f9.params[j]? = some t → args[j]? = some v → Value.okWide Tryz.prog W .any base t v)
    (hW : DataW.Whole enc Tryz.prog Tryz.f9.params.toList Rows.naiveLeastSpec.vars false W args.toList ds gs before) (hk : Rows.uptoSmall H (ds ++ gs) = true) :
    Calls Tryz.prog 9 args W fun e W' => ∃ v, e = .returned v ∧ Rows.naiveLeastSpec.post enc Tryz.prog Tryz.f9 false true false false W args v W' := by
  have hW' := hW
  obtain ⟨p, q, hA0, hV, rfl, hfz, hnd⟩ := hW
  have hA : DataW.TrodAll enc Tryz.prog W 0 (fun _ => true) true Tryz.f9.params.toList args.toList ds p := hA0
  rw [Tryz.params9] at hA hval
  obtain ⟨v0, v1, v2, d0, d1, d2, p0, p1, p2, rfl, rfl, rfl, h0, h1, h2⟩ := trodAll_three hA
  obtain ⟨rfl, rfl⟩ := trodVars_none hV
  obtain ⟨x0, r0, s0⟩ := openRule.sliceArg Tryz.underlying23 (hval 0 23 v0 rfl rfl) h0
  obtain ⟨x1, r1, s1⟩ := openFact.sliceArg Tryz.underlying24 (hval 1 24 v1 rfl rfl) h1
  obtain ⟨x2, r2, s2⟩ := openFact.sliceArg Tryz.underlying24 (hval 2 24 v2 rfl rfl) h2
  rw [List.append_nil] at hk
  have hb : Rows.uptoBulkAll [d0, d1, d2] ≤ 1048576 := of_decide_eq_true hk
  simp only [Rows.uptoBulkAll] at hb
  obtain ⟨l0, m0, k0⟩ := rules_small (p := x0) (by omega)
  have l1 := sizeL_le openFact.one x1
  have m1 : ∀ z ∈ x1, z.args.length ≤ 1048576 := fun z hz => by have h1 := sizeL_mem (size := sizeFact) hz; have h2 := sizeL_le openStr.one z.args; simp only [sizeFact] at h1; omega
  have l2 := sizeL_le openFact.one x2
  have m2 : ∀ z ∈ x2, z.args.length ≤ 1048576 := fun z hz => by have h1 := sizeL_mem (size := sizeFact) hz; have h2 := sizeL_le openStr.one z.args; simp only [sizeFact] at h1; omega
  refine (naiveLeastCalls x0 v0 x1 v1 x2 v2 W r0 r1 r2 l0 m0 k0 (by omega) m1 m2).mono fun e W' ⟨he, hb'⟩ => ?_
  subst he
  exact ⟨_, rfl, law_post (tb := 4) hW' rfl rfl (by kernel_rfl) Tryz.underlying4 (by kernel_rfl) (by kernel_rfl) hb'⟩

set_option maxRecDepth 100000 in
theorem lifted (os : Os) (started : os.Started) (H : Type) (enc : TypeId × Value → H) (F : Stop.Interp) :
    ReturnsInHanded {} Tryz.checked os 9 .any ((Rows.OpenSpec.upto Rows.naiveLeastSpec).pre6 enc Tryz.prog Tryz.f9 Rows.naiveLeastUptoRow.domain false) (((Rows.OpenSpec.upto Rows.naiveLeastSpec).at F).post enc Tryz.prog Tryz.f9 false true false false) := by
  refine returnsInHanded_of_cond (C := Tryz.checked) (s := Rows.OpenSpec.upto Rows.naiveLeastSpec) (k := Rows.uptoSmall) rfl own started (by kernel_rfl) Tryz.func9
    (OpenSpec.witness (enc := enc) (C := Tryz.checked) (s := Rows.OpenSpec.upto Rows.naiveLeastSpec) (k := Rows.uptoSmall) rfl false ⟨#[], #[.slice none 0 0, .slice none 0 0, .slice none 0 0], []⟩ 8 (by kernel_rfl) (by kernel_rfl) (by kernel_rfl)
      (x := ([.nil, .nil, .nil], [], [])) (by kernel_rfl) rfl (by kernel_rfl)) ?_
  intro W base args ds gs before hval hW _ hk _
  exact contract H enc W base args ds gs before hval hW hk

theorem proved : Rows.NaiveLeastUptoSaid :=
  OpenClaim.holds_of_cond 9 Tryz.f9 rfl rfl rfl rfl rfl rfl rfl ⟨rfl, rfl, rfl, rfl, rfl⟩ rfl rfl rfl rfl rfl (by kernel_rfl) Tryz.func9 (by kernel_rfl)
    (of_decide_eq_true (by kernel_rfl)) (by unfold Func.isWrapper; first | (rw [if_pos (by decide +kernel)]; kernel_rfl) | (rw [if_neg (by decide +kernel)]; exact ⟨rfl, rfl⟩))
    (fun os started H enc _ F => lifted os started H enc F)
end naiveLeast

end Go.Proofs.YtbbiapgkcekabaaGreat
