/-
  corolaw7.ProofRight ALWAYS ANSWERS TRUE: a proof with which nothing is wrong is one of a fact that follows. For any arguments of ordinary size; without conditions.
-/
import Derived.Test.YtoffggiaecclmaaGreatPk16
import Derived.Test.YtoffggiaecclmaaGreatPk20
import Derived.Test.YtoffggiaecclmaaGreatChecked
namespace Go.Proofs.YtoffggiaecclmaaGreat
open Go.RowKit Go.ChangeShapes Go.WideShapes Go.Deep

theorem check_zero {st : List Int} {q : Int × Int} {p : List PRule} {l : List PFact} {n : Nat} {x : PProof} (hS : StrataIs p st q) (h : checkN st q.1 p l n x = 0) : (naiveP st q.1 p l).2 = 0 ∧ x.fact ∈ (naiveP st q.1 p l).1 := by
  unfold checkN at h
  split at h
  · rename_i hc; exact absurd h hc
  · rename_i hc
    have hc' : (naiveP st q.1 p l).2 = 0 := Classical.not_not.1 hc
    split at h
    · exact absurd h (by decide)
    · obtain ⟨hF, -, hR⟩ := naive_follows hS hc'
      exact ⟨hc', one_sound hF hR n x h⟩

set_option maxRecDepth 100000 in
set_option maxHeartbeats 8000000 in
theorem proofRightCalls {S S3 S4 S5 : Nat → Prop} (p : List PRule) (v fv : Value) (l : List PFact) (n : Nat) (x : PProof) (av kv : Value) (w : World) (h : RdRules S w v p) (hf : RdFacts S3 w fv l) (ha : RdStrs S4 w av x.fact.args) (hk : RdProofs n S5 w kv x.kids) (hs : smallN (n + 1) x) (hc : cntN (n + 1) x ≤ 1048576)
    (n1 : p.length ≤ 1048576) (n2 : ∀ r ∈ p, RuleSmall r) (n3 : ∀ r ∈ p, NameSmall r) (n4 : l.length ≤ 1048576) (n5 : ∀ x ∈ l, x.args.length ≤ 1048576) :
    Calls Tryz.prog 3 #[v, fv, .agg #[.string x.fact.name, av, .int .i64 x.rule, kv]] w fun e w' => e = .returned (.bool true) ∧ Below w.heap.size w w' := by
  obtain ⟨a, c, rfl, -, -, -⟩ := id h.form
  obtain ⟨fa, fc, rfl, -, -, -⟩ := id hf.form
  obtain ⟨aa, ac, rfl, -, -, -⟩ := id ha.form
  obtain ⟨ka, kc, rfl, -, -, -⟩ := id hk.form
  obtain ⟨st, q, hS⟩ := exists_strata p
  obtain ⟨W0, hW0⟩ : ∃ W0 : World, w.alloc (.cells #[.string x.fact.name, .slice aa x.fact.args.length ac, .int .i64 x.rule, .slice ka x.kids.length kc] 30) = W0 := ⟨_, rfl⟩
  have HB0 := Lib.hid (show Below w.heap.size w W0 by subst hW0; exact (Below.refl _ _).alloc (Nat.le_refl _) _)
  have HK0 := Lib.hid (show Blk W0 w.heap.size 30 #[.string x.fact.name, .slice aa x.fact.args.length ac, .int .i64 x.rule, .slice ka x.kids.length kc] by subst hW0; exact Blk.new w _ _)
  have KA := Lib.hid (alive7Calls W0)
  have KC := Lib.hid (fun W (hW : Below w.heap.size w W) => checkCalls p (.slice a p.length c) (.slice fa l.length fc) st q l n x (.slice aa x.fact.args.length ac) (.slice ka x.kids.length kc) W hS (h.up hW) (RdFacts.up hf hW) (ha.up hW) (RdSlice.agree (RProofN.steady n) (Below.agree hW) hk) hs hc n1 n2 n3 n4 n5)
  have KN := Lib.hid (fun W (hW : Below w.heap.size w W) => naiveReads p (.slice a p.length c) (.slice fa l.length fc) st q l W hS (h.up hW) (RdFacts.up hf hW) n1 n2 n3 n4 n5)
  have HA := Lib.hid ha
  have HZ := Lib.hid (check_zero (n := n + 1) (x := x) (l := l) hS)
  have HFO := Lib.hid (naive_follows hS (l := l))
  clear h hf ha hk hs hc n2 n3 n5 hS
  generalize checkN st q.1 p l (n + 1) x = cx at *
  generalize naiveP st q.1 p l = z at *
  obtain ⟨m, e0⟩ := z
  dsimp only at *
  by_cases hcx : cx = 0
  case neg =>
    have g1 : (cx != 0) = true := by simpa using hcx
    clear hcx HZ HFO
    go_enter Tryz.func3, Tryz.ntmps3
    go_wp2_with (first
      | (go_at_call 7; have hh := HB1.out; clear hh; refine (KC.out _ HB1.out).mono ?_; rintro e w2 ⟨rfl, hb2⟩; have HB2 := Lib.hid (HB1.out.trans (hb2.mono HB1.out.size)); clear hb2)
      | (go_at_call 6; refine (KA.out).mono ?_; rintro e w1 ⟨rfl, hb1⟩; have HB1 := Lib.hid (HB0.out.trans (hb1.mono HB0.out.size)); have hk1 := HK0.out.below hb1 HK0.out.lt; have k0 := hk1.cell 0; have k1 := hk1.cell 1; have k2 := hk1.cell 2; have k3 := hk1.cell 3; simp only [List.getElem?_toArray, List.getElem?_cons_zero, List.getElem?_cons_succ] at k0 k1 k2 k3; clear hb1 hk1))
    go_ret
    exact ⟨rfl, HB2.out⟩
  subst hcx
  obtain ⟨he, hmem⟩ := HZ.out rfl
  subst he
  obtain ⟨hF, -, -⟩ := HFO.out rfl
  have HFL := Lib.hid hF
  have HMEM := Lib.hid (show memF x.fact m = true from (memF_iff x.fact m).2 hmem)
  clear hF hmem HZ HFO
  go_enter Tryz.func3, Tryz.ntmps3
  go_wp2_with (first
    | (go_at_call 9; have hh := HM3.out; clear hh; refine (inFact _ m x.fact _ _ HM3.out (HA.out.up HB3.out) HFL.out.rise (Nat.le_trans HFL.out.len (by decide)) (fun z hz => by have := (wrongF_zero.1 (HFL.out.good z hz)).2.1; omega)).mono ?_; rw [HMEM.out]; rintro e w4 ⟨rfl, hf4⟩; have HB4 := Lib.hid (HB3.out.trans (hf4.below.mono HB3.out.size)); clear hf4)
    | (go_at_call 8; have hh := HB2.out; clear hh; refine (KN.out _ HB2.out).mono ?_; rintro e w3 ⟨⟨a3, c3, rfl, hr3⟩, hb3⟩; have HM3 := Lib.hid hr3; have HB3 := Lib.hid (HB2.out.trans (hb3.mono HB2.out.size)); have hk3 := HK2.out.below hb3 HK2.out.lt; have g0 := hk3.cell 0; have g1 := hk3.cell 1; simp only [List.getElem?_toArray, List.getElem?_cons_zero, List.getElem?_cons_succ] at g0 g1; clear hr3 hb3 hk3)
    | (go_at_call 7; have hh := HB1.out; clear hh; refine (KC.out _ HB1.out).mono ?_; rintro e w2 ⟨rfl, hb2⟩; have HB2 := Lib.hid (HB1.out.trans (hb2.mono HB1.out.size)); have HK2 := Lib.hid (HK1.out.below hb2 HK1.out.lt); clear hb2)
    | (go_at_call 6; refine (KA.out).mono ?_; rintro e w1 ⟨rfl, hb1⟩; have HB1 := Lib.hid (HB0.out.trans (hb1.mono HB0.out.size)); have HK1 := Lib.hid (HK0.out.below hb1 HK0.out.lt); have k0 := HK1.out.cell 0; have k1 := HK1.out.cell 1; have k2 := HK1.out.cell 2; have k3 := HK1.out.cell 3; simp only [List.getElem?_toArray, List.getElem?_cons_zero, List.getElem?_cons_succ] at k0 k1 k2 k3; clear hb1))
  go_ret
  exact ⟨ret_bool (by simp), HB4.out⟩

namespace proofRight
theorem own : ownKnob Tryz.prog.godebug = none := by kernel_rfl

set_option maxRecDepth 100000 in
theorem contract (H : Type) (enc : TypeId × Value → H) (W : World) (base : Nat) (args : Array Value) (ds gs : List (DataW H)) (before : List MemPlace)
    (hval : ∀ (j : Nat) t v, Tryz.f3.params[j]? = some t → args[j]? = some v → Value.okWide Tryz.prog W .any base t v)
    (hW : DataW.Whole enc Tryz.prog Tryz.f3.params.toList Rows.proofRightSpec.vars false W args.toList ds gs before) (hk : Rows.uptoSmall H (ds ++ gs) = true) :
    Calls Tryz.prog 3 args W fun e W' => ∃ v, e = .returned v ∧ Rows.proofRightSpec.post enc Tryz.prog Tryz.f3 false true false false W args v W' := by
  have hW' := hW
  obtain ⟨p, q, hA0, hV, rfl, hfz, hnd⟩ := hW
  have hA : DataW.TrodAll enc Tryz.prog W 0 (fun _ => true) true Tryz.f3.params.toList args.toList ds p := hA0
  rw [Tryz.params3] at hA hval
  obtain ⟨v0, v1, v2, d0, d1, d2, p0, p1, p2, rfl, rfl, rfl, h0, h1, h2⟩ := trodAll_three hA
  obtain ⟨rfl, rfl⟩ := trodVars_none hV
  obtain ⟨x0, r0, s0⟩ := openRule.sliceArg Tryz.underlying23 (hval 0 23 v0 rfl rfl) h0
  obtain ⟨x1, r1, s1⟩ := openFact.sliceArg Tryz.underlying24 (hval 1 24 v1 rfl rfl) h1
  rw [List.append_nil] at hk
  have hb : Rows.uptoBulkAll [d0, d1, d2] ≤ 1048576 := of_decide_eq_true hk
  simp only [Rows.uptoBulkAll] at hb
  obtain ⟨l0, m0, k0⟩ := rules_small (p := x0) (by omega)
  have l1 := sizeL_le openFact.one x1
  have m1 : ∀ z ∈ x1, z.args.length ≤ 1048576 := fun z hz => by have h1 := sizeL_mem (size := sizeFact) hz; have h2 := sizeL_le openStr.one z.args; simp only [sizeFact] at h1; omega
  obtain ⟨d2_, x2, av2, kv2, rfl, r2, q2, l2, m2⟩ := openProof.proofArg Tryz.underlying30 (hval 2 30 v2 rfl rfl) h2 (by omega)
  refine (proofRightCalls x0 v0 v1 x1 d2_ x2 av2 kv2 W r0 r1 r2 q2 l2 m2 l0 m0 k0 (by omega) m1).mono fun e W' ⟨he, hb'⟩ => ?_
  subst he
  exact ⟨_, rfl, law_post (tb := 4) hW' rfl rfl (by kernel_rfl) Tryz.underlying4 (by kernel_rfl) (by kernel_rfl) hb'⟩

set_option maxRecDepth 100000 in
theorem lifted (os : Os) (started : os.Started) (H : Type) (enc : TypeId × Value → H) (F : Stop.Interp) :
    ReturnsInHanded {} Tryz.checked os 3 .any ((Rows.OpenSpec.upto Rows.proofRightSpec).pre6 enc Tryz.prog Tryz.f3 Rows.proofRightUptoRow.domain false) (((Rows.OpenSpec.upto Rows.proofRightSpec).at F).post enc Tryz.prog Tryz.f3 false true false false) := by
  refine returnsInHanded_of_cond (C := Tryz.checked) (s := Rows.OpenSpec.upto Rows.proofRightSpec) (k := Rows.uptoSmall) rfl own started (by kernel_rfl) Tryz.func3
    (OpenSpec.witness (enc := enc) (C := Tryz.checked) (s := Rows.OpenSpec.upto Rows.proofRightSpec) (k := Rows.uptoSmall) rfl false ⟨#[], #[.slice none 0 0, .slice none 0 0, .agg #[.string .empty, .slice none 0 0, .int .i64 0, .slice none 0 0]], []⟩ 8 (by kernel_rfl) (by kernel_rfl) (by kernel_rfl)
      (x := ([.nil, .nil, .agg [.agg [.lit (.string []), .nil], .lit (.int .i64 0), .nil]], [], [])) (by kernel_rfl) rfl (by kernel_rfl)) ?_
  intro W base args ds gs before hval hW _ hk _
  exact contract H enc W base args ds gs before hval hW hk

theorem proved : Rows.ProofRightUptoSaid :=
  OpenClaim.holds_of_cond 3 Tryz.f3 rfl rfl rfl rfl rfl rfl rfl ⟨rfl, rfl, rfl, rfl, rfl⟩ rfl rfl rfl rfl rfl (by kernel_rfl) Tryz.func3 (by kernel_rfl)
    (of_decide_eq_true (by kernel_rfl)) (by unfold Func.isWrapper; first | (rw [if_pos (by decide +kernel)]; kernel_rfl) | (rw [if_neg (by decide +kernel)]; exact ⟨rfl, rfl⟩))
    (fun os started H enc _ F => lifted os started H enc F)
end proofRight
end Go.Proofs.YtoffggiaecclmaaGreat
