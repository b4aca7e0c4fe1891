/-
  corolaw6.RoundSame ALWAYS ANSWERS TRUE: what is new of what was new, or all over and over: it comes to the same; where there are not too many ways. For any arguments of ordinary size; without conditions.
-/
import Derived.Test.YtbbiapgkcekabaaGreatPk17
import Derived.Test.YtbbiapgkcekabaaGreatPk18
namespace Go.Proofs.YtbbiapgkcekabaaGreat
open Go.RowKit Go.ChangeShapes Go.WideShapes Go.Deep

set_option maxRecDepth 100000 in
set_option maxHeartbeats 8000000 in
theorem roundSameCalls {S S2 : Nat → Prop} (p : List PRule) (v : Value) (l : List PFact) (fv : Value) (w : World) (h : RdRules S w v p) (hf : RdFacts S2 w fv l)
    (n1 : p.length ≤ 1048576) (n2 : ∀ r ∈ p, RuleSmall r) (n3 : ∀ r ∈ p, NameSmall r) (n4 : l.length ≤ 1048576) (n5 : ∀ x ∈ l, x.args.length ≤ 1048576) :
    Calls Tryz.prog 13 #[v, fv] w fun e w' => e = .returned (.bool true) ∧ Below w.heap.size w w' := by
  obtain ⟨a, c, rfl, -, -, -⟩ := id h.form
  obtain ⟨fa, fc, rfl, -, -, -⟩ := id hf.form
  obtain ⟨st, q, hS⟩ := exists_strata p
  have KA := Lib.hid (alive6Calls w)
  have KB := Lib.hid (fun W (hW : Below w.heap.size w W) => allRunCalls p _ _ st q l W hS (h.up hW) (hf.up hW) n1 n2 n3 n4 n5)
  have KN := Lib.hid (fun W (hW : Below w.heap.size w W) => naiveReads p _ _ st q l W hS (h.up hW) (hf.up hW) n1 n2 n3 n4 n5)
  have HSM := Lib.hid (all_small hS (l := l))
  have HSA := round_same hS (l := l)
  clear h hf n2 n3 n5 hS
  go_enter Tryz.func13, Tryz.ntmps13
  go_wp2_with (go_at_call 46; refine (KA.out).mono ?_; rintro e w1 ⟨rfl, hb1⟩; have HB1 := Lib.hid hb1; clear hb1)
  clear KA
  by_cases h4 : (allRun st q.1 p l).2 = 4
  · clear HSA HSM
    generalize allRun st q.1 p l = x at *
    generalize naiveP st q.1 p l = y at *
    obtain ⟨xl, xe⟩ := x
    obtain ⟨yl, ye⟩ := y
    dsimp only at *
    subst h4
    go_wp2_with (first
      | (go_at_call 17; have hh := HB2.out; clear hh; refine (KN.out _ HB2.out).mono ?_; rintro e w3 ⟨⟨a3, c3, rfl, hr3⟩, hb3⟩; have HB3 := Lib.hid (HB2.out.trans (hb3.mono (Below.size HB2.out))); clear hr3 hb3)
      | (go_at_call 47; refine (KB.out _ HB1.out).mono ?_; rintro e w2 ⟨hb2, a2, c2, rfl, hr2⟩; have HB2 := Lib.hid (HB1.out.trans (hb2.mono (Below.size HB1.out))); clear hr2 hb2))
    go_ret
    exact ⟨rfl, HB3.out⟩
  by_cases h5 : (naiveP st q.1 p l).2 = 4
  · clear HSA HSM
    generalize allRun st q.1 p l = x at *
    generalize naiveP st q.1 p l = y at *
    obtain ⟨xl, xe⟩ := x
    obtain ⟨yl, ye⟩ := y
    dsimp only at *
    subst h5
    have g4 : (xe == 4) = false := beq_eq_false_iff_ne.2 h4
    clear h4
    go_wp2_with (first
      | (go_at_call 17; have hh := HB2.out; clear hh; refine (KN.out _ HB2.out).mono ?_; rintro e w3 ⟨⟨a3, c3, rfl, hr3⟩, hb3⟩; have HB3 := Lib.hid (HB2.out.trans (hb3.mono (Below.size HB2.out))); clear hr3 hb3)
      | (go_at_call 47; refine (KB.out _ HB1.out).mono ?_; rintro e w2 ⟨hb2, a2, c2, rfl, hr2⟩; have HB2 := Lib.hid (HB1.out.trans (hb2.mono (Below.size HB1.out))); clear hr2 hb2))
    go_ret
    exact ⟨rfl, HB3.out⟩
  rcases HSA with g | g | g
  · exact absurd g h5
  · exact absurd g h4
  rw [g] at KN
  clear h5 g
  generalize allRun st q.1 p l = x at *
  obtain ⟨xl, xe⟩ := x
  dsimp only at *
  have g4 : (xe == 4) = false := beq_eq_false_iff_ne.2 h4
  clear h4
  go_wp2_with (first
    | (go_at_call 19; have hh := HB3.out; clear hh; refine (sameRefl HX3.out HY3.out HSM.out.1 HSM.out.2).mono ?_; rintro e w4 ⟨rfl, hb4⟩; have HB4 := Lib.hid (HB3.out.trans (hb4.mono (Below.size HB3.out))); clear hb4)
    | (go_at_call 17; have hh := HB2.out; clear hh; refine (KN.out _ HB2.out).mono ?_; rintro e w3 ⟨⟨a3, c3, rfl, hr3⟩, hb3⟩; have HB3 := Lib.hid (HB2.out.trans (hb3.mono (Below.size HB2.out))); have HX3 := Lib.hid (HX2.out.up hb3); have HY3 := Lib.hid hr3; clear hr3 hb3)
    | (go_at_call 47; refine (KB.out _ HB1.out).mono ?_; rintro e w2 ⟨hb2, a2, c2, rfl, hr2⟩; have HB2 := Lib.hid (HB1.out.trans (hb2.mono (Below.size HB1.out))); have HX2 := Lib.hid hr2; clear hr2 hb2))
  go_ret
  exact ⟨ret_bool (by simp), HB4.out⟩
namespace roundSame
theorem own : ownKnob Tryz.prog.godebug = none := by kernel_rfl

set_option maxRecDepth 100000 in
theorem contract (H : Type) (enc : TypeId × Value → H) (W : World) (base : Nat) (args : Array Value) (ds gs : List (DataW H)) (before : List MemPlace)
    (hval : ∀ (j : Nat) t v, Tryz.f13.params[j]? = some t → args[j]? = some v → Value.okWide Tryz.prog W .any base t v)
    (hW : DataW.Whole enc Tryz.prog Tryz.f13.params.toList Rows.roundSameSpec.vars false W args.toList ds gs before) (hk : Rows.uptoSmall H (ds ++ gs) = true) :
    Calls Tryz.prog 13 args W fun e W' => ∃ v, e = .returned v ∧ Rows.roundSameSpec.post enc Tryz.prog Tryz.f13 false true false false W args v W' := by
  have hW' := hW
  obtain ⟨p, q, hA0, hV, rfl, hfz, hnd⟩ := hW
  have hA : DataW.TrodAll enc Tryz.prog W 0 (fun _ => true) true Tryz.f13.params.toList args.toList ds p := hA0
  rw [Tryz.params13] at hA hval
  obtain ⟨v0, v1, d0, d1, p0, p1, rfl, rfl, rfl, h0, h1⟩ := trodAll_two hA
  obtain ⟨rfl, rfl⟩ := trodVars_none hV
  obtain ⟨x0, r0, s0⟩ := openRule.sliceArg Tryz.underlying23 (hval 0 23 v0 rfl rfl) h0
  obtain ⟨x1, r1, s1⟩ := openFact.sliceArg Tryz.underlying24 (hval 1 24 v1 rfl rfl) h1
  rw [List.append_nil] at hk
  have hb : Rows.uptoBulkAll [d0, d1] ≤ 1048576 := of_decide_eq_true hk
  simp only [Rows.uptoBulkAll] at hb
  obtain ⟨l0, m0, k0⟩ := rules_small (p := x0) (by omega)
  have l1 := sizeL_le openFact.one x1
  have m1 : ∀ z ∈ x1, z.args.length ≤ 1048576 := fun z hz => by have h1 := sizeL_mem (size := sizeFact) hz; have h2 := sizeL_le openStr.one z.args; simp only [sizeFact] at h1; omega
  refine (roundSameCalls x0 v0 x1 v1 W r0 r1 l0 m0 k0 (by omega) m1).mono fun e W' ⟨he, hb'⟩ => ?_
  subst he
  exact ⟨_, rfl, law_post (tb := 4) hW' rfl rfl (by kernel_rfl) Tryz.underlying4 (by kernel_rfl) (by kernel_rfl) hb'⟩

set_option maxRecDepth 100000 in
theorem lifted (os : Os) (started : os.Started) (H : Type) (enc : TypeId × Value → H) (F : Stop.Interp) :
    ReturnsInHanded {} Tryz.checked os 13 .any ((Rows.OpenSpec.upto Rows.roundSameSpec).pre6 enc Tryz.prog Tryz.f13 Rows.roundSameUptoRow.domain false) (((Rows.OpenSpec.upto Rows.roundSameSpec).at F).post enc Tryz.prog Tryz.f13 false true false false) := by
  refine returnsInHanded_of_cond (C := Tryz.checked) (s := Rows.OpenSpec.upto Rows.roundSameSpec) (k := Rows.uptoSmall) rfl own started (by kernel_rfl) Tryz.func13
    (OpenSpec.witness (enc := enc) (C := Tryz.checked) (s := Rows.OpenSpec.upto Rows.roundSameSpec) (k := Rows.uptoSmall) rfl false ⟨#[], #[.slice none 0 0, .slice none 0 0], []⟩ 8 (by kernel_rfl) (by kernel_rfl) (by kernel_rfl)
      (x := ([.nil, .nil], [], [])) (by kernel_rfl) rfl (by kernel_rfl)) ?_
  intro W base args ds gs before hval hW _ hk _
  exact contract H enc W base args ds gs before hval hW hk

theorem proved : Rows.RoundSameUptoSaid :=
  OpenClaim.holds_of_cond 13 Tryz.f13 rfl rfl rfl rfl rfl rfl rfl ⟨rfl, rfl, rfl, rfl, rfl⟩ rfl rfl rfl rfl rfl (by kernel_rfl) Tryz.func13 (by kernel_rfl)
    (of_decide_eq_true (by kernel_rfl)) (by unfold Func.isWrapper; first | (rw [if_pos (by decide +kernel)]; kernel_rfl) | (rw [if_neg (by decide +kernel)]; exact ⟨rfl, rfl⟩))
    (fun os started H enc _ F => lifted os started H enc F)
end roundSame
end Go.Proofs.YtbbiapgkcekabaaGreat
