/-
  CLAIM: CheckTells: of any rules, of bulk at most 1048576, the law answers true and leaves its argument as it was.
-/
import Derived.Test.YtobbjapmdpkogaaCheckR3
import Derived.Test.YtobbjapmdpkogaaStrataS2
import Derived.Test.YtobbjapmdpkogaaRulesIn
import Derived.Laws.StructEq
namespace Go.Proofs.Ytobbjapmdpkogaa
open Go.RowKit Go.ChangeShapes Go.WideShapes Go.ChangeAt

set_option maxRecDepth 100000 in
theorem neqFault2 (x y : Int) (w : World) : (binOp .neq 26 (.agg #[.int .i64 x, .int .i64 y]) (.agg #[.int .i64 x, .int .i64 y])).run Try.prog w = .ok (.bool false) w := by
  have hp : Try.prog.stoodInHeld 26 = false := by kernel_rfl
  have hf : Try.prog.fieldsOf 26 = (match Try.prog.underlying 26 with | some (.struct fs) => fs | _ => #[]) := rfl
  rw [Try.underlying26] at hf
  have hu : Try.prog.underlying 26 = some (.struct (Try.prog.fieldsOf 26)) := by rw [hf]; exact Try.underlying26
  simp only [binOp]
  simp [Op.equal, Op.maxDepth, run_equalIn_struct w 9999 _ _ _ hu hp, go_sem]

theorem belowDrewN2 {B : Nat} {a w : World} (h : Below B a w) (n : Nat) : Below B a (w.drewN n) := ⟨h.os, h.tape, h.output, h.size, h.block⟩
theorem agreeDrewN2 {S : Nat → Prop} {a w : World} (h : Agree S a w) (n : Nat) : Agree S a (w.drewN n) := h
theorem belowDrew2 {B : Nat} {a w : World} (h : Below B a w) : Below B a w.drew := ⟨h.os, h.tape, h.output, h.size, h.block⟩

attribute [local go_sem ↓] Go.wp_at_zero Go.wp_at_succ
set_option maxRecDepth 100000 in
set_option maxHeartbeats 8000000 in
theorem checkTellsCalls (p : List PRule) (v : Value) (w : World) (h : RdRules (fun _ => True) w v p) (n1 : p.length ≤ 1048576) (n2 : ∀ r ∈ p, RuleSmall r) (n3 : ∀ r ∈ p, NameSmall r) :
    Calls Try.prog 3 #[v] w fun e w' => e = .returned (.bool true) ∧ Below w.heap.size w w' := by
  obtain ⟨va, vc, rfl, -, -, -⟩ := id h.form
  have H := Lib.hid h
  have N2 := Lib.hid n2
  have N3 := Lib.hid n3
  have K1 := Lib.hid (fun W (hW : Below w.heap.size w W) => wrongCalls p _ W (H.out.up hW) n1 N2.out N3.out)
  have K2 := Lib.hid (fun W (hW : Below w.heap.size w W) => wrongRefP p _ W (H.out.up hW) n1 N2.out N3.out)
  have K3 := Lib.hid (fun W (hW : Below w.heap.size w W) => strataCalls p _ W (H.out.up hW) n1 N2.out N3.out)
  have K4 := Lib.hid (fun W (hW : Below w.heap.size w W) => strataRef p _ W (H.out.up hW) n1 N2.out N3.out)
  obtain ⟨q1, hq1⟩ : ∃ q, (wrongP p).1 = q := ⟨_, rfl⟩
  obtain ⟨q2, hq2⟩ : ∃ q, (wrongP p).2 = q := ⟨_, rfl⟩
  rw [hq1, hq2] at K1 K2
  have hnf1 := fun w => neqFault2 q1 q2 w
  clear h n2 n3 hq1 hq2
  have HB0 := Lib.hid (Below.refl w.heap.size w)
  go_enter Try.func3, Try.ntmps3
  go_wp2_with (first
    | (go_at_call 11; refine (K2.out _ HB1.out).mono ?_; rintro e w2 ⟨rfl, hb2⟩; have HB2 := Lib.hid (HB1.out.trans (hb2.mono HB1.out.size)); clear hb2)
    | (go_at_call 10; refine (K1.out _ HB0.out).mono ?_; rintro e w1 ⟨rfl, hb1⟩; have HB1 := Lib.hid (HB0.out.trans (hb1.mono HB0.out.size)); clear hb1))
  clear HB0 HB1 K1 K2 hnf1
  go_loopw [20] (fun i wr => ∃ k : Nat, k ≤ p.length ∧ i = .int .i64 k ∧ Hid (Below w.heap.size w wr)) (fun i _ => p.length - (intOf i).toNat)
  case atStart => exact ⟨0, Nat.zero_le _, rfl, HB2⟩
  case round =>
    clear HB2
    obtain ⟨k, hk, rfl, HP⟩ := hrel
    by_cases hlt : k < p.length
    · obtain ⟨z, hz⟩ : ∃ z, p[k]? = some z := ⟨_, List.getElem?_eq_getElem hlt⟩
      have hmem := List.mem_of_getElem? hz
      obtain ⟨b1, o1, tv, bv, rfl, -, hb1, d0, d1, d2, d3, htv, hbv⟩ := RdRules.at H.out hz
      obtain ⟨ta, tc, rfl, -, -, -⟩ := id htv.form
      obtain ⟨ba, bc, rfl, -, -, -⟩ := id hbv.form
      have HRA := Lib.hid (show RuleAt (fun _ => True) w b1 (o1 + k * 4) z (.slice ta z.head.terms.length tc) (.slice ba z.body.length bc) from ⟨hb1, d0, d1, d2, d3, htv, hbv⟩)
      have HS := Lib.hid (N2.out z hmem)
      have HN := Lib.hid (N3.out z hmem)
      clear d0 d1 d2 d3
      obtain ⟨-, d0, d1, d2, d3, -, -⟩ := HRA.out.up HP.out
      have HP1 := Lib.hid (HP.out.alloc HP.out.size (.cells #[.bool z.head.neg, .string z.head.name, .slice ta z.head.terms.length tc, .slice ba z.body.length bc] 33))
      have HR1 := Lib.hid (Blk.new wr 33 #[.bool z.head.neg, .string z.head.name, .slice ta z.head.terms.length tc, .slice ba z.body.length bc])
      obtain ⟨n, hn⟩ : ∃ n, (varsOf z.head).length = n := ⟨_, rfl⟩
      have HVL := Lib.hid hn
      have KA : Hid (∀ W, Below w.heap.size w W → Calls Try.prog 12 #[.agg #[.bool z.head.neg, .string z.head.name, .slice ta z.head.terms.length tc]] W fun e w' => (∃ a c, e = .returned (.slice a n c) ∧ RdStrs (New W) w' (.slice a n c) (varsOf z.head)) ∧ Below W.heap.size W w') := Lib.hid fun W hW => (varsCalls z.head _ W (HRA.out.up hW).t (by have := HS.out.h1; omega)).mono fun e w' hh => by
        obtain ⟨⟨v6, rfl, ho⟩, hb⟩ := hh
        have hr := ho.read RStr.steady
        obtain ⟨a6, c6, rfl, -, -, -⟩ := id hr.form
        subst hn
        exact ⟨⟨a6, c6, rfl, hr.more RStr.steady (fun b hb _ => hb.elim (fun h => h.elim) id)⟩, hb⟩
      have KB : Hid (∀ W, Below w.heap.size w W → Calls Try.prog 13 #[.agg #[.bool z.head.neg, .string z.head.name, .slice ta z.head.terms.length tc]] W fun e w' => (∃ a c, e = .returned (.slice a n c) ∧ RdStrs (New W) w' (.slice a n c) (varsOf z.head)) ∧ Below W.heap.size W w') := Lib.hid fun W hW => (varsRef z.head _ W (HRA.out.up hW).t HS.out.h1 HS.out.h2).mono fun e w' hh => by
        obtain ⟨⟨v6, rfl, ho⟩, hb⟩ := hh
        have hr := ho.read RStr.steady
        obtain ⟨a6, c6, rfl, -, -, -⟩ := id hr.form
        subst hn
        exact ⟨⟨a6, c6, rfl, hr.more RStr.steady (fun b hb _ => hb.elim (fun h => h.elim) id)⟩, hb⟩
      obtain ⟨q, hq⟩ : ∃ q, bodyBad z.body = q := ⟨_, rfl⟩
      have KC : Hid (∀ W, Below w.heap.size w W → Calls Try.prog 14 #[.slice ba z.body.length bc] W fun e w' => e = .returned (.int .i64 q) ∧ Below W.heap.size W w') := Lib.hid fun W hW => by
        have := checkBody _ z.body W (HRA.out.up hW).b HS.out.b0 HS.out.b1 HS.out.b2
        rwa [hq] at this
      have KD : Hid (∀ W, Below w.heap.size w W → Calls Try.prog 15 #[.slice ba z.body.length bc] W fun e w' => e = .returned (.int .i64 q) ∧ Below W.heap.size W w') := Lib.hid fun W hW => by
        have := wrongBodyRef z.body _ W (HRA.out.up hW).b HS.out.b0 HS.out.b1 HS.out.b2 HN.out.b
        rwa [hq] at this
      obtain ⟨W1, hW1⟩ : ∃ W1, wr.alloc (.cells #[.bool z.head.neg, .string z.head.name, .slice ta z.head.terms.length tc, .slice ba z.body.length bc] 33) = W1 := ⟨_, rfl⟩
      rw [hW1] at HP1 HR1
      have hnn : n ≤ 1099511627776 := by
        have := varsF_length z.head.terms []
        have := HS.out.h1
        rw [← hn]
        show (varsF [] z.head.terms).length ≤ _
        simp at *; omega
      have HPD := Lib.hid (belowDrew2 HP1.out)
      have HRD := Lib.hid HR1.out.drew
      have a0 := HRD.out.cell 0
      have a1 := HRD.out.cell 1
      have a2 := HRD.out.cell 2
      simp only [List.getElem?_toArray, List.getElem?_cons_zero, List.getElem?_cons_succ] at a0 a1 a2
      clear hz hmem htv hbv hn hq
      go_wp2_with fail
      go_region_held3 (fun w' => w'.cell? ⟨wr.heap.size, 0, none⟩ = some (.bool z.head.neg) ∧ w'.cell? ⟨wr.heap.size, 1, none⟩ = some (.string z.head.name) ∧ w'.cell? ⟨wr.heap.size, 2, none⟩ = some (.slice ta z.head.terms.length tc))
        (first | (exact ⟨e0, e1, e2⟩) | (exact ⟨b0, b1', b2⟩) | (exact ⟨a0, a1, a2⟩) | go_keep)
        (first
          | (go_at_call 12; refine (KA.out _ HPD.out).mono ?_; rintro e w2 ⟨⟨xa, xc, rfl, hx⟩, hb2⟩; have HX2 := Lib.hid hx; have HP2 := Lib.hid (HPD.out.trans (hb2.mono HPD.out.size)); have HR2 := Lib.hid (HRD.out.below hb2 HRD.out.lt); clear hb2 hx; have b0 := HR2.out.cell 0; have b1' := HR2.out.cell 1; have b2 := HR2.out.cell 2; simp only [List.getElem?_toArray, List.getElem?_cons_zero, List.getElem?_cons_succ] at b0 b1' b2)
          | (go_at_call 13; refine (KB.out _ HP2.out).mono ?_; rintro e w3 ⟨⟨ya, yc, rfl, hy⟩, hb3⟩; have HX3 := Lib.hid (HX2.out.agree RStr.steady (Below.agree hb3)); have HY3 := Lib.hid hy; have HP3 := Lib.hid (HP2.out.trans (hb3.mono HP2.out.size)); have HR3 := Lib.hid (HR2.out.below hb3 HR2.out.lt); clear hb3 hy; have e0 := HR3.out.cell 0; have e1 := HR3.out.cell 1; have e2 := HR3.out.cell 2; simp only [List.getElem?_toArray, List.getElem?_cons_zero, List.getElem?_cons_succ] at e0 e1 e2))
      all_goals
        have HP4 := Lib.hid (belowDrew2 HP3.out)
        have HR4 := Lib.hid HR3.out.drew
        have HX4 := Lib.hid (HX3.out.agree RStr.steady (Agree.drew (Agree.refl _ _)))
        have HY4 := Lib.hid (HY3.out.agree RStr.steady (Agree.drew (Agree.refl _ _)))
        have k3 := HR4.out.cell 3
        simp only [List.getElem?_toArray, List.getElem?_cons_zero, List.getElem?_cons_succ] at k3
        clear KA KB HX2 HP2 HR2 HPD HRD HX3 HY3
        go_wp2_with fail
        go_region_held3 (fun w' => w'.cell? ⟨wr.heap.size, 3, none⟩ = some (.slice ba z.body.length bc))
          (first | (exact m3) | (exact l3) | (exact k3) | go_keep)
          (first
            | (go_at_call 14; refine (KC.out _ HP4.out).mono ?_; rintro e w5 ⟨rfl, hb5⟩; have HP5 := Lib.hid (HP4.out.trans (hb5.mono HP4.out.size)); have HR5 := Lib.hid (HR4.out.below hb5 HR4.out.lt); have HX5 := Lib.hid (HX4.out.agree RStr.steady (Below.agree hb5)); have HY5 := Lib.hid (HY4.out.agree RStr.steady (Below.agree hb5)); clear hb5; have l3 := HR5.out.cell 3; simp only [List.getElem?_toArray, List.getElem?_cons_zero, List.getElem?_cons_succ] at l3)
            | (go_at_call 15; refine (KD.out _ HP5.out).mono ?_; rintro e w6 ⟨rfl, hb6⟩; have HP6 := Lib.hid (HP5.out.trans (hb6.mono HP5.out.size)); have HR6 := Lib.hid (HR5.out.below hb6 HR5.out.lt); have HX6 := Lib.hid (HX5.out.agree RStr.steady (Below.agree hb6)); have HY6 := Lib.hid (HY5.out.agree RStr.steady (Below.agree hb6)); clear hb6; have m3 := HR6.out.cell 3; simp only [List.getElem?_toArray, List.getElem?_cons_zero, List.getElem?_cons_succ] at m3))
        all_goals
          go_wp2
          clear HR6 m3 l3 HP5 HR5 HX5 HY5 k3 HX4 HY4 HR4 HP4 e0 e1 e2 b0 b1' b2 a0 a1 a2 d0 d1 d2 d3 KC KD
          go_loopw [46] (fun i wr => ∃ j : Nat, j ≤ n ∧ i = .int .i64 j ∧ Hid (Below w.heap.size w wr) ∧ Hid (RdStrs (fun _ => True) wr (.slice xa n xc) (varsOf z.head)) ∧ Hid (RdStrs (fun _ => True) wr (.slice ya n yc) (varsOf z.head))) (fun i _ => n - (intOf i).toNat)
          case atStart => exact ⟨0, Nat.zero_le _, rfl, HP6, Lib.hid (HX6.out.more RStr.steady (fun _ _ _ => trivial)), Lib.hid (HY6.out.more RStr.steady (fun _ _ _ => trivial))⟩
          case round =>
            clear HP6 HX6 HY6
            obtain ⟨j, hj, rfl, HP, HX, HY⟩ := hrel
            by_cases hlj : j < n
            · obtain ⟨u, hu⟩ : ∃ u, (varsOf z.head)[j]? = some u := ⟨_, List.getElem?_eq_getElem (by rw [HVL.out]; exact hlj)⟩
              obtain ⟨g1, o1, rfl, -, -, s1⟩ := RdStrs.at HX.out hu
              obtain ⟨g2, o2, rfl, -, -, s2⟩ := RdStrs.at HY.out hu
              have huu : (u.toList == u.toList) = true := beq_self_eq_true _
              clear hu
              go_wp2_with fail
              go_quiet (fail)
              go_wp2
              go_roundw
              case rel => exact ⟨j + 1, by omega, by go_num, Lib.hid (belowDrewN2 HP.out _), Lib.hid (HX.out.agree RStr.steady (agreeDrewN2 (Agree.refl _ _) _)), Lib.hid (HY.out.agree RStr.steady (agreeDrewN2 (Agree.refl _ _) _))⟩
              case measure => simp [intOf]; omega
            · clear HX HY
              go_wp2
              go_roundw
              case rel => exact ⟨k + 1, by omega, by go_num, HP⟩
              case measure => simp [intOf]; omega
    · skip
      go_wp2_with (first
        | (go_at_call 17; refine (K4.out _ HP2.out).mono ?_; rintro e w3 ⟨hb3, v3, l3, ⟨x3, y3⟩, rfl, hr3, hs3⟩; obtain ⟨rfl, hq3⟩ := hs3.unique HS1.out; injection hq3 with hq3 hq4; subst hq3; subst hq4; obtain ⟨ya, yc, rfl, -, -, -⟩ := id hr3.form; have HY3 := Lib.hid (hr3.agree RInt.steady ((Agree.refl _ _).alloc (.cells #[.int .i64 x3, .int .i64 y3] 26))); have HX3 := Lib.hid ((HX2.out.agree RInt.steady (Below.agree hb3)).agree RInt.steady ((Agree.refl _ _).alloc (.cells #[.int .i64 x3, .int .i64 y3] 26))); have HP3 := Lib.hid ((HP2.out.trans (hb3.mono HP2.out.size)).alloc (Nat.le_trans HP2.out.size hb3.size) (.cells #[.int .i64 x3, .int .i64 y3] 26)); have HF3 := Lib.hid ((HF2.out.below hb3 HF2.out.lt).alloc (.cells #[.int .i64 x3, .int .i64 y3] 26)); have HG3 := Lib.hid (Blk.new w3 26 #[.int .i64 x3, .int .i64 y3]); clear hb3 hr3 hs3; have f1 := HF3.out.cell 0; have f2 := HF3.out.cell 1; have g1 := HG3.out.cell 0; have g2 := HG3.out.cell 1; simp only [List.getElem?_toArray, List.getElem?_cons_zero, List.getElem?_cons_succ] at f1 f2 g1 g2; have hnf3 := fun w => neqFault2 x3 y3 w)
        | (go_at_call 16; refine (K3.out _ HP.out).mono ?_; rintro e w2 ⟨hb2, v2, l2, ⟨x2, y2⟩, rfl, hr2, hs2⟩; obtain ⟨xa, xc, rfl, -, -, -⟩ := id hr2.form; have HS1 := Lib.hid hs2; have HX2 := Lib.hid (hr2.agree RInt.steady ((Agree.refl _ _).alloc (.cells #[.int .i64 x2, .int .i64 y2] 26))); have HP2 := Lib.hid ((HP.out.trans (hb2.mono HP.out.size)).alloc (Nat.le_trans HP.out.size hb2.size) (.cells #[.int .i64 x2, .int .i64 y2] 26)); have HF2 := Lib.hid (Blk.new w2 26 #[.int .i64 x2, .int .i64 y2]); clear hb2 hr2 hs2))
      have hll : l3.length ≤ 1099511627776 := by
        rcases HS1.out with ⟨-, rfl, -⟩ | ⟨-, ⟨L, -, rfl, -⟩ | ⟨-, rfl, -⟩⟩ <;> simp <;> omega
      clear HS1 HF3 HG3 HX2 HP2 HF2 f1 f2 g1 g2 hnf3 K3 K4
      go_loopw [82] (fun i wr => ∃ j : Nat, j ≤ l3.length ∧ i = .int .i64 j ∧ Hid (Below w.heap.size w wr) ∧ Hid (RdInts (fun _ => True) wr (.slice xa l3.length xc) l3) ∧ Hid (RdInts (fun _ => True) wr (.slice ya l3.length yc) l3)) (fun i _ => l3.length - (intOf i).toNat)
      case atStart => exact ⟨0, Nat.zero_le _, rfl, HP3, Lib.hid (HX3.out.more RInt.steady (fun _ _ _ => trivial)), Lib.hid (HY3.out.more RInt.steady (fun _ _ _ => trivial))⟩
      case round =>
        clear HP3 HX3 HY3
        obtain ⟨j, hj, rfl, HP, HX, HY⟩ := hrel
        by_cases hlj : j < l3.length
        · obtain ⟨u, hu⟩ : ∃ u, l3[j]? = some u := ⟨_, List.getElem?_eq_getElem hlj⟩
          obtain ⟨g1, o1, rfl, -, -, s1⟩ := RdInts.at HX.out hu
          obtain ⟨g2, o2, rfl, -, -, s2⟩ := RdInts.at HY.out hu
          have huu : (u != u) = false := by simp
          clear hu
          go_wp2_with fail
          go_quiet (fail)
          go_wp2
          go_roundw
          case rel => exact ⟨j + 1, by omega, by go_num, Lib.hid (belowDrewN2 HP.out _), Lib.hid (HX.out.agree RInt.steady (agreeDrewN2 (Agree.refl _ _) _)), Lib.hid (HY.out.agree RInt.steady (agreeDrewN2 (Agree.refl _ _) _))⟩
          case measure => simp [intOf]; omega
        · go_wp2
          go_ret
          exact ⟨rfl, HP.out⟩
namespace checkTells
theorem own : ownKnob Try.prog.godebug = none := by kernel_rfl

set_option maxRecDepth 100000 in
theorem contract (H : Type) (enc : TypeId × Value → H) (W : World) (base : Nat) (args : Array Value) (ds gs : List (DataW H)) (before : List MemPlace)
    (hval : ∀ (j : Nat) t v, Try.f3.params[j]? = some t → args[j]? = some v → Value.okWide Try.prog W .any base t v)
    (hW : DataW.Whole enc Try.prog Try.f3.params.toList Rows.checkTellsSpec.vars false W args.toList ds gs before) (hk : Rows.uptoSmall H (ds ++ gs) = true) :
    Calls Try.prog 3 args W fun e W' => ∃ v, e = .returned v ∧ Rows.checkTellsSpec.post enc Try.prog Try.f3 false true false false W args v W' := by
  have hW' := hW
  obtain ⟨p, q, hA0, hV, rfl, hfz, hnd⟩ := hW
  have hA : DataW.TrodAll enc Try.prog W 0 (fun _ => true) true Try.f3.params.toList args.toList ds p := hA0
  rw [Try.params3] at hA hval
  obtain ⟨v0, d0, rfl, rfl, h0⟩ := trodAll_one hA
  obtain ⟨rfl, rfl⟩ := trodVars_none hV
  obtain ⟨x0, r0, s0⟩ := openRule.sliceArg Try.underlying23 (hval 0 23 v0 rfl rfl) h0
  rw [List.append_nil] at hk
  have hb : Rows.uptoBulkAll [d0] ≤ 1048576 := of_decide_eq_true hk
  simp only [Rows.uptoBulkAll] at hb
  obtain ⟨l0, m0, k0⟩ := rules_small (p := x0) (by omega)
  refine (checkTellsCalls x0 v0 W r0 l0 m0 k0).mono fun e W' ⟨he, hb'⟩ => ?_
  subst he
  exact ⟨_, rfl, law_post (tb := 4) hW' rfl rfl (by kernel_rfl) Try.underlying4 (by kernel_rfl) (by kernel_rfl) hb'⟩

set_option maxRecDepth 100000 in
theorem lifted (os : Os) (started : os.Started) (H : Type) (enc : TypeId × Value → H) (F : Stop.Interp) :
    ReturnsInHanded {} Try.checked os 3 .any ((Rows.OpenSpec.upto Rows.checkTellsSpec).pre6 enc Try.prog Try.f3 Rows.checkTellsUptoRow.domain false) (((Rows.OpenSpec.upto Rows.checkTellsSpec).at F).post enc Try.prog Try.f3 false true false false) := by
  refine returnsInHanded_of_cond (C := Try.checked) (s := Rows.OpenSpec.upto Rows.checkTellsSpec) (k := Rows.uptoSmall) rfl own started (by kernel_rfl) Try.func3
    (OpenSpec.witness (enc := enc) (C := Try.checked) (s := Rows.OpenSpec.upto Rows.checkTellsSpec) (k := Rows.uptoSmall) rfl false ⟨#[], #[.slice none 0 0], []⟩ 8 (by kernel_rfl) (by kernel_rfl) (by kernel_rfl)
      (x := ([.nil], [], [])) (by kernel_rfl) rfl (by kernel_rfl)) ?_
  intro W base args ds gs before hval hW _ hk _
  exact contract H enc W base args ds gs before hval hW hk

theorem proved : Rows.CheckTellsUptoSaid :=
  OpenClaim.holds_of_cond 3 Try.f3 rfl rfl rfl rfl rfl rfl rfl ⟨rfl, rfl, rfl, rfl, rfl⟩ rfl rfl rfl rfl rfl (by kernel_rfl) Try.func3 (by kernel_rfl)
    (of_decide_eq_true (by kernel_rfl)) (by unfold Func.isWrapper; first | (rw [if_pos (by decide +kernel)]; kernel_rfl) | (rw [if_neg (by decide +kernel)]; exact ⟨rfl, rfl⟩))
    (fun os started H enc _ F => lifted os started H enc F)
end checkTells


end Go.Proofs.Ytobbjapmdpkogaa
