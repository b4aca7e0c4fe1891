/-
  corolaw5.NaiveModel ALWAYS ANSWERS TRUE: all that follows is there: what was told is, and no rule makes anything more. For any arguments of ordinary size; without conditions.
-/
import Derived.Test.YtbbiapgkcekabaaGreatPk15
namespace Go.Proofs.YtbbiapgkcekabaaGreat
open Go.RowKit Go.ChangeShapes Go.WideShapes Go.Deep

attribute [local go_sem ↓] Go.wp_at_zero Go.wp_at_succ
set_option maxRecDepth 100000 in
set_option maxHeartbeats 8000000 in
theorem naiveModelCalls {S S2 : Nat → Prop} (p : List PRule) (v : Value) (l : List PFact) (fv : Value) (w : World) (h : RdRules S w v p) (hf : RdFacts S2 w fv l)
    (n1 : p.length ≤ 1048576) (n2 : ∀ r ∈ p, RuleSmall r) (n3 : ∀ r ∈ p, NameSmall r) (n4 : l.length ≤ 1048576) (n5 : ∀ x ∈ l, x.args.length ≤ 1048576) :
    Calls Tryz.prog 8 #[v, fv] w fun e w' => e = .returned (.bool true) ∧ Below w.heap.size w w' := by
  obtain ⟨a, c, rfl, -, -, -⟩ := id h.form
  obtain ⟨fa, fc, rfl, -, -, -⟩ := id hf.form
  obtain ⟨st, q, hS⟩ := exists_strata p
  have KA := Lib.hid (alive5Calls w)
  have KN := Lib.hid (fun W (hW : Below w.heap.size w W) => naiveReads p (.slice a p.length c) (.slice fa l.length fc) st q l W hS (h.up hW) (hf.up hW) n1 n2 n3 n4 n5)
  have H := Lib.hid h
  have HFA := Lib.hid hf
  have N2 := Lib.hid n2
  have N5 := Lib.hid n5
  have HNI := Lib.hid (naive_nil (st := st) (q := q.1) (p := p) (l := l))
  have HFO := Lib.hid (naive_follows hS (l := l))
  clear h hf n2 n3 n5 hS
  generalize naiveP st q.1 p l = r at *
  obtain ⟨m, e0⟩ := r
  dsimp only at *
  by_cases he : e0 = 0
  case neg =>
    have g1 : (e0 != 0) = true := by simpa using he
    obtain rfl := HNI.out he
    clear he HFO HNI
    go_enter Tryz.func8, Tryz.ntmps8
    go_wp2_with (first
      | (go_at_call 36; refine (KA.out).mono ?_; rintro e w1 ⟨rfl, hb1⟩; have HB1 := Lib.hid hb1; clear hb1)
      | (go_at_call 17; refine (KN.out _ HB1.out).mono ?_; rintro e w2 ⟨⟨a2, c2, rfl, hr2⟩, hb2⟩; have HB2 := Lib.hid (HB1.out.trans (hb2.mono (Below.size HB1.out))); clear hr2 hb2))
    go_ret
    exact ⟨rfl, HB2.out⟩
  subst he
  obtain ⟨hF, hset, hR⟩ := HFO.out rfl
  have HF := Lib.hid hF
  have HR := Lib.hid hR
  have hml := hF.len
  have HMA := Lib.hid (good_args hF.good)
  have HG := Lib.hid (good_of hset)
  clear hF hR hset HFO HNI
  have KS := Lib.hid (fun W vm (hm : RdFacts (fun _ => True) W vm m) => setCalls vm m W hm (by omega) (fun x hx => by have := HMA.out x hx; omega))
  rw [HF.out.set] at KS
  have hfd : ∀ w : World, (Instr.field 27 (.agg #[.int .i64 0, .int .i64 0]) 0).run Tryz.prog w = .ok (.int .i64 0) w := fun _ => by kernel_rfl
  go_enter Tryz.func8, Tryz.ntmps8
  go_wp2_with (first
    | (go_at_call 36; refine (KA.out).mono ?_; rintro e w1 ⟨rfl, hb1⟩; have HB1 := Lib.hid hb1; clear hb1)
    | (go_at_call 45; have hh := HM3.out; clear hh; refine (KS.out _ _ HM3.out).mono ?_; rintro e w4 ⟨rfl, hb4⟩; have HB4 := Lib.hid (HB3.out.trans (hb4.mono (Below.size HB3.out))); have HM4 := Lib.hid (HM3.out.up hb4); clear hb4)
    | (go_at_call 44; have hh := HM2.out; clear hh; refine (lessNone HF.out.sub (HFA.out.up HB2.out) HM2.out HF.out.rise n4 N5.out (by omega) HMA.out).mono ?_; rintro e w3 ⟨⟨a3, c3, rfl⟩, hb3⟩; have HB3 := Lib.hid (HB2.out.trans (hb3.mono (Below.size HB2.out))); have HM3 := Lib.hid (HM2.out.up hb3); clear hb3)
    | (go_at_call 17; have hh := HB1.out; clear hh; refine (KN.out _ HB1.out).mono ?_; rintro e w2 ⟨⟨a2, c2, rfl, hr2⟩, hb2⟩; have HM2 := Lib.hid hr2; have HB2 := Lib.hid (HB1.out.trans (hb2.mono (Below.size HB1.out))); clear hr2 hb2))
  clear HB1 HB2 HB3 HM2 HM3 KA KN KS
  obtain ⟨wo, hwo⟩ : ∃ wo : World, wo = w4 := ⟨_, rfl⟩
  subst hwo
  have HBO := Lib.hid (Below.refl wo.heap.size wo)
  go_loopw [37] (fun i wr => ∃ k : Nat, k ≤ p.length ∧ i = .int .i64 k ∧ Hid (Below wo.heap.size wo wr)) (fun i _ => p.length - (intOf i).toNat)
  case atStart => exact ⟨0, Nat.zero_le _, rfl, HBO⟩
  case round =>
    clear HBO
    obtain ⟨k, hk, rfl, HB⟩ := hrel
    have HBW := Lib.hid (HB4.out.trans (HB.out.mono (Below.size HB4.out)))
    by_cases hlt : k < p.length
    · obtain ⟨x, hx⟩ : ∃ x, p[k]? = some x := ⟨_, List.getElem?_eq_getElem hlt⟩
      have hmem := List.mem_of_getElem? hx
      obtain ⟨b1, o1, ta, tc, ba, bc, rfl, hra⟩ := H.out.pick hx
      have HRA := Lib.hid hra
      obtain ⟨-, d0, d1, d2, d3, -, -⟩ := HRA.out.up HBW.out
      have HB1 := Lib.hid (HB.out.alloc (Below.size HB.out) (.cells #[.bool x.head.neg, .string x.head.name, .slice ta x.head.terms.length tc, .slice ba x.body.length bc] 43))
      have HBW1 := Lib.hid (HB4.out.trans (HB1.out.mono (Below.size HB4.out)))
      have HM1 := Lib.hid (HM4.out.up HB1.out)
      have KH := Lib.hid (headsReads x _ _ _ m _ (HRA.out.up HBW1.out).t (HRA.out.up HBW1.out).b HM1.out (N2.out x hmem) (by omega) HMA.out)
      have HSUB := Lib.hid (fun h0 => (show ∀ y ∈ (headsP x m).1, y ∈ m from fun y hy => HF.out.closed x hmem y ((mem_heads h0 y).1 hy)))
      have HMU := Lib.hid (heads_much (l := m) (ruleBad_zero (HR.out x hmem)).2.2.1 (by rw [HF.out.set]))
      have HHL := Lib.hid (heads_len x m)
      have HHA := Lib.hid (show ∀ y ∈ (headsP x m).1, y.args.length ≤ 1048576 from fun y hy => by rw [heads_args hy]; exact (N2.out x hmem).h1)
      clear hx hmem hra
      generalize headsP x m = r at *
      obtain ⟨hl, e1⟩ := r
      dsimp only at *
      by_cases he : e1 = 0
      case neg =>
        obtain rfl := HMU.out he
        go_wp2_with (go_at_call 25; refine (KH.out).mono ?_; rintro e w5 ⟨⟨a5, c5, rfl, hr5⟩, hb5⟩; have HB5 := Lib.hid (HBW1.out.trans (hb5.mono (Below.size HBW1.out))); clear hr5 hb5)
        go_ret
        exact ⟨rfl, HB5.out⟩
      subst he
      have HS2 := Lib.hid (HSUB.out rfl)
      clear HSUB HMU
      go_wp2_with (first
        | (go_at_call 25; refine (KH.out).mono ?_; rintro e w5 ⟨⟨a5, c5, rfl, hr5⟩, hb5⟩; have HH5 := Lib.hid hr5; have HB5 := Lib.hid (HB1.out.trans (hb5.mono (Below.size HB1.out))); have HM5 := Lib.hid (HM1.out.up hb5); clear hr5 hb5)
        | (go_at_call 44; refine (lessNone HS2.out HH5.out HM5.out HF.out.rise (by have := HHL.out; omega) HHA.out (by omega) HMA.out).mono ?_; rintro e w6 ⟨⟨a6, c6, rfl⟩, hb6⟩; have HB6 := Lib.hid (HB5.out.trans (hb6.mono (Below.size HB5.out))); clear hb6))
      go_roundw
      case rel => exact ⟨k + 1, by omega, by go_num, HB6⟩
      case measure => simp [intOf]; omega
    · go_wp2
      go_ret
      exact ⟨rfl, HBW.out⟩
namespace naiveModel
theorem own : ownKnob Tryz.prog.godebug = none := by kernel_rfl

set_option maxRecDepth 100000 in
theorem contract (H : Type) (enc : TypeId × Value → H) (W : World) (base : Nat) (args : Array Value) (ds gs : List (DataW H)) (before : List MemPlace)
    (hval : ∀ (j : Nat) t v, Tryz.f8.params[j]? = some t → args[j]? = some v → Value.okWide Tryz.prog W .any base t v)
    (hW : DataW.Whole enc Tryz.prog Tryz.f8.params.toList Rows.naiveModelSpec.vars false W args.toList ds gs before) (hk : Rows.uptoSmall H (ds ++ gs) = true) :
    Calls Tryz.prog 8 args W fun e W' => ∃ v, e = .returned v ∧ Rows.naiveModelSpec.post enc Tryz.prog Tryz.f8 false true false false W args v W' := by
  have hW' := hW
  obtain ⟨p, q, hA0, hV, rfl, hfz, hnd⟩ := hW
  have hA : DataW.TrodAll enc Tryz.prog W 0 (fun _ => true) true Tryz.f8.params.toList args.toList ds p := hA0
  rw [Tryz.params8] at hA hval
  obtain ⟨v0, v1, d0, d1, p0, p1, rfl, rfl, rfl, h0, h1⟩ := trodAll_two hA
  obtain ⟨rfl, rfl⟩ := trodVars_none hV
  obtain ⟨x0, r0, s0⟩ := openRule.sliceArg Tryz.underlying23 (hval 0 23 v0 rfl rfl) h0
  obtain ⟨x1, r1, s1⟩ := openFact.sliceArg Tryz.underlying24 (hval 1 24 v1 rfl rfl) h1
  rw [List.append_nil] at hk
  have hb : Rows.uptoBulkAll [d0, d1] ≤ 1048576 := of_decide_eq_true hk
  simp only [Rows.uptoBulkAll] at hb
  obtain ⟨l0, m0, k0⟩ := rules_small (p := x0) (by omega)
  have l1 := sizeL_le openFact.one x1
  have m1 : ∀ z ∈ x1, z.args.length ≤ 1048576 := fun z hz => by have h1 := sizeL_mem (size := sizeFact) hz; have h2 := sizeL_le openStr.one z.args; simp only [sizeFact] at h1; omega
  refine (naiveModelCalls x0 v0 x1 v1 W r0 r1 l0 m0 k0 (by omega) m1).mono fun e W' ⟨he, hb'⟩ => ?_
  subst he
  exact ⟨_, rfl, law_post (tb := 4) hW' rfl rfl (by kernel_rfl) Tryz.underlying4 (by kernel_rfl) (by kernel_rfl) hb'⟩

set_option maxRecDepth 100000 in
theorem lifted (os : Os) (started : os.Started) (H : Type) (enc : TypeId × Value → H) (F : Stop.Interp) :
    ReturnsInHanded {} Tryz.checked os 8 .any ((Rows.OpenSpec.upto Rows.naiveModelSpec).pre6 enc Tryz.prog Tryz.f8 Rows.naiveModelUptoRow.domain false) (((Rows.OpenSpec.upto Rows.naiveModelSpec).at F).post enc Tryz.prog Tryz.f8 false true false false) := by
  refine returnsInHanded_of_cond (C := Tryz.checked) (s := Rows.OpenSpec.upto Rows.naiveModelSpec) (k := Rows.uptoSmall) rfl own started (by kernel_rfl) Tryz.func8
    (OpenSpec.witness (enc := enc) (C := Tryz.checked) (s := Rows.OpenSpec.upto Rows.naiveModelSpec) (k := Rows.uptoSmall) rfl false ⟨#[], #[.slice none 0 0, .slice none 0 0], []⟩ 8 (by kernel_rfl) (by kernel_rfl) (by kernel_rfl)
      (x := ([.nil, .nil], [], [])) (by kernel_rfl) rfl (by kernel_rfl)) ?_
  intro W base args ds gs before hval hW _ hk _
  exact contract H enc W base args ds gs before hval hW hk

theorem proved : Rows.NaiveModelUptoSaid :=
  OpenClaim.holds_of_cond 8 Tryz.f8 rfl rfl rfl rfl rfl rfl rfl ⟨rfl, rfl, rfl, rfl, rfl⟩ rfl rfl rfl rfl rfl (by kernel_rfl) Tryz.func8 (by kernel_rfl)
    (of_decide_eq_true (by kernel_rfl)) (by unfold Func.isWrapper; first | (rw [if_pos (by decide +kernel)]; kernel_rfl) | (rw [if_neg (by decide +kernel)]; exact ⟨rfl, rfl⟩))
    (fun os started H enc _ F => lifted os started H enc F)
end naiveModel

end Go.Proofs.YtbbiapgkcekabaaGreat
