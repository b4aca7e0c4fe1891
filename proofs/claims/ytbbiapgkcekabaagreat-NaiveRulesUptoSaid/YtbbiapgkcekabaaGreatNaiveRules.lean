/-
  corolaw5.NaiveRules ALWAYS ANSWERS TRUE: rules in whatever order: a program turned around makes the same of the same. For any arguments of ordinary size; without conditions.
-/
import Derived.Test.YtbbiapgkcekabaaGreatPk15
namespace Go.Proofs.YtbbiapgkcekabaaGreat
open Go.RowKit Go.ChangeShapes Go.WideShapes Go.Deep

theorem take_reverse_snoc {α : Type} {l : List α} {k : Nat} {x : α} (hk : k < l.length) (h : l[l.length - 1 - k]? = some x) : l.reverse.take (k + 1) = l.reverse.take k ++ [x] := by
  have h2 : l.reverse[k]? = some x := by rw [List.getElem?_reverse hk]; exact h
  rw [List.take_add_one, h2]; rfl
theorem alike_same {a b : List PFact × Int} (h : Alike a b) (h1 : a.2 ≠ 4) (h2 : b.2 ≠ 4) : a = b := h.elim (fun e => absurd e h1) fun h => h.elim (fun e => absurd e h2) id
/-- What the law asks at last. -/
theorem wrong_or {p : List PRule} {l : List PFact} {st st' : List Int} {q q' : Int × Int} (hs : StrataIs p st q) (hs' : StrataIs p.reverse st' q') :
    (wrongP p).1 ≠ 0 ∨ (wrongP p).1 = 0 ∧ ((naiveP st q.1 p l).2 = 4 ∨ (naiveP st q.1 p l).2 ≠ 4 ∧ ((naiveP st' q'.1 p.reverse l).2 = 4 ∨ (naiveP st' q'.1 p.reverse l).2 ≠ 4 ∧ naiveP st q.1 p l = naiveP st' q'.1 p.reverse l)) := by
  by_cases h : (wrongP p).1 = 0
  · refine .inr ⟨h, ?_⟩
    by_cases h1 : (naiveP st q.1 p l).2 = 4
    · exact .inl h1
    · by_cases h2 : (naiveP st' q'.1 p.reverse l).2 = 4
      · exact .inr ⟨h1, .inl h2⟩
      · exact .inr ⟨h1, .inr ⟨h2, alike_same (naive_reverse hs hs' h) h1 h2⟩⟩
  · exact .inl h
theorem naive_args {p : List PRule} {l : List PFact} {st : List Int} {q : Int × Int} (hs : StrataIs p st q) : (naiveP st q.1 p l).1.length ≤ 200 ∧ ∀ x ∈ (naiveP st q.1 p l).1, x.args.length ≤ 1048576 := by
  by_cases h : (naiveP st q.1 p l).2 = 0
  · have hF := (naive_follows hs h).1
    exact ⟨hF.len, good_args hF.good⟩
  · rw [naive_nil h]; simp

attribute [local go_sem ↓] Go.wp_at_zero Go.wp_at_succ
set_option maxRecDepth 100000 in
set_option maxHeartbeats 8000000 in
theorem naiveRulesCalls {S S2 : Nat → Prop} (p : List PRule) (v : Value) (l : List PFact) (fv : Value) (w : World) (h : RdRules S w v p) (hf : RdFacts S2 w fv l)
    (n1 : p.length ≤ 1048576) (n2 : ∀ r ∈ p, RuleSmall r) (n3 : ∀ r ∈ p, NameSmall r) (n4 : l.length ≤ 1048576) (n5 : ∀ x ∈ l, x.args.length ≤ 1048576) :
    Calls Tryz.prog 6 #[v, fv] w fun e w' => e = .returned (.bool true) ∧ Below w.heap.size w w' := by
  obtain ⟨a, c, rfl, -, -, -⟩ := id h.form
  obtain ⟨fa, fc, rfl, -, -, -⟩ := id hf.form
  obtain ⟨st, q, hS⟩ := exists_strata p
  obtain ⟨st', q', hS'⟩ := exists_strata p.reverse
  have KA := Lib.hid (alive5Calls w)
  have KN := Lib.hid (fun W (hW : Below w.heap.size w W) => naiveReads p (.slice a p.length c) (.slice fa l.length fc) st q l W hS (h.up hW) (hf.up hW) n1 n2 n3 n4 n5)
  have KW := Lib.hid (fun W (hW : Below w.heap.size w W) => wrongCalls p (.slice a p.length c) W (h.up hW) n1 n2 n3)
  have KM := Lib.hid (fun W qv (hW : Below w.heap.size w W) (hq : RdRules (fun _ => True) W qv p.reverse) => naiveReads p.reverse qv (.slice fa l.length fc) st' q' l W hS' hq (hf.up hW) (by simpa using n1) (fun r hr => n2 r (List.mem_reverse.1 hr)) (fun r hr => n3 r (List.mem_reverse.1 hr)) n4 n5)
  have H := Lib.hid h
  have HFA := Lib.hid hf
  have HWO := Lib.hid (wrong_or hS hS' (l := l))
  have HA1 := Lib.hid (naive_args hS (l := l))
  have HA2 := Lib.hid (naive_args hS' (l := l))
  have HSN := Lib.hid (fun k x hk hx => take_reverse_snoc (l := p) (k := k) (x := x) hk hx)
  have HRL := Lib.hid (show p.reverse.length = p.length from List.length_reverse)
  clear h hf n2 n3 n5 hS hS'
  generalize p.reverse = pr at *
  generalize naiveP st q.1 p l = r at *
  generalize naiveP st' q'.1 pr l = r' at *
  obtain ⟨m, e0⟩ := r
  obtain ⟨m', e0'⟩ := r'
  dsimp only at *
  have hfd : ∀ (x y : Int) (w : World), (Instr.field 27 (.agg #[.int .i64 x, .int .i64 y]) 0).run Tryz.prog w = .ok (.int .i64 x) w := fun _ _ _ => by kernel_rfl
  go_enter Tryz.func6, Tryz.ntmps6
  go_wp2_with (go_at_call 36; refine (KA.out).mono ?_; rintro e w1 ⟨rfl, hb1⟩; have HB1 := Lib.hid hb1; clear hb1)
  clear KA
  obtain ⟨wo, hwo⟩ : ∃ wo : World, wo = w1 := ⟨_, rfl⟩
  subst hwo
  have HBO := Lib.hid (Below.refl wo.heap.size wo)
  go_loopw [15, 5] (fun i v wr => ∃ (k : Nat), k ≤ p.length ∧ i = .int .i64 k ∧ Hid (Owned 4 RRule wo.heap.size 43 (fun b => b < w.heap.size) wr v (pr.take k)) ∧ Hid (Below wo.heap.size wo wr)) (fun i _ _ => p.length - (intOf i).toNat)
  case atStart => exact ⟨0, Nat.zero_le _, rfl, Lib.hid Owned.nil, HBO⟩
  case round =>
    clear HBO
    obtain ⟨k, hk, rfl, HO, HB⟩ := hrel
    have hwb := Below.size HB1.out
    have HBW := Lib.hid (HB1.out.trans (HB.out.mono hwb))
    by_cases hlt : k < p.length
    · obtain ⟨j, hj⟩ : ∃ j : Nat, p.length - 1 - k = j := ⟨_, rfl⟩
      obtain ⟨x, hx⟩ : ∃ x, p[j]? = some x := ⟨_, List.getElem?_eq_getElem (by omega)⟩
      obtain ⟨b1, o1, ta, tc, ba, bc, rfl, hra⟩ := H.out.pick hx
      have HRA := Lib.hid hra
      obtain ⟨-, d0, d1, d2, d3, -, -⟩ := HRA.out.up HBW.out
      have HT := Lib.hid (HSN.out k x hlt (by rw [hj]; exact hx))
      have s1 : IntKind.i64.wrap ((p.length : Int) - 1) = (p.length : Int) - 1 := by rw [IntKind.wrap_i64]; omega
      have s2 : IntKind.i64.wrap ((p.length : Int) - 1 - (k : Int)) = (j : Int) := by rw [IntKind.wrap_i64]; omega
      have s3 : (p.length : Int) - 1 - (k : Int) = (j : Int) := by omega
      have i1 : (0 : Int) ≤ (j : Int) := by omega
      have i2 : (j : Int) < (p.length : Int) := by omega
      have hlk : (pr.take k).length = k := by rw [List.length_take, HRL.out]; omega
      have HLK := Lib.hid hlk
      clear hx hra hlk hj
      go_wp2_with (at_builtin; refine wpList_append_one (B := wo.heap.size) (e := 43) (S := fun b => b < w.heap.size) (by rfl) _ _ 23 (by rfl) RRule.steady rowRules _ (pr.take k) (by rfl) (HO.out.alloc RRule.steady _) wr.heap.size 1 #[.bool x.head.neg, .string x.head.name, .slice ta x.head.terms.length tc, .slice ba x.body.length bc] 43 (0, 0) x (by rfl) (heap_new_at rfl) rfl (by simp [Value.oneCell']) ⟨_, _, rfl, (HRA.out.t.more (S' := fun q => q < w.heap.size ∧ some q ≠ _) RTerm.steady (fun q _ hq => ⟨hq, fun e => by have := (HO.out.row_lt e.symm).1; omega⟩)).agree RTerm.steady ⟨(HBW.out.alloc (Below.size HBW.out) _).size, fun q hq _ => (HBW.out.alloc (Below.size HBW.out) _).block q hq.1⟩, (HRA.out.b.more (S' := fun q => q < w.heap.size ∧ some q ≠ _) RAtom.steady (fun q _ hq => ⟨hq, fun e => by have := (HO.out.row_lt e.symm).1; omega⟩)).agree RAtom.steady ⟨(HBW.out.alloc (Below.size HBW.out) _).size, fun q hq _ => (HBW.out.alloc (Below.size HBW.out) _).block q hq.1⟩⟩ (by rw [HLK.out]; omega) (by have := Below.size HB.out; simp; omega) ?_; intro v2 w2 hown2 hg2 hat2; rw [← HT.out] at hown2; have HO2 := Lib.hid hown2; have HB2 := Lib.hid ((HB.out.alloc (Below.size HB.out) _).grown hg2 (by have := Below.size HB.out; simp; omega) (fun q hq => (HO.out.row_lt hq).1)); clear hown2 hg2 hat2)
      go_roundw
      case rel => exact ⟨k + 1, by omega, by go_num, HO2, HB2⟩
      case measure => simp [intOf]; omega
    · rw [List.take_of_length_le (l := pr) (by rw [HRL.out]; omega)] at HO
      have HQ := Lib.hid ((HO.out.read RRule.steady).more RRule.steady (S' := fun _ => True) (fun _ _ _ => trivial))
      obtain ⟨qa, qc, efm, -, -, -⟩ := id HQ.out.form
      subst efm
      clear HO HB
      have SM := Lib.hid (fun W va vb (h1 : RdFacts (fun _ => True) W va m) (h2 : RdFacts (fun _ => True) W vb m') => sameRef va vb m m' W h1 h2 (by have := HA1.out.1; omega) (fun x hx => by have := HA1.out.2 x hx; omega) (fun x hx => by have := HA2.out.2 x hx; omega))
      rcases HWO.out with hz | ⟨hz, h1 | ⟨h1, h2 | ⟨h2, h3⟩⟩⟩
      · have g1 : ((wrongP p).1 != 0) = true := by simpa using hz
        clear hz HWO
        generalize wrongP p = z at *
        obtain ⟨z1, z2⟩ := z
        dsimp only at *
        go_wp2_with (first
          | (go_at_call 39; have hh := HB3.out; clear hh; refine (KW.out _ HB3.out).mono ?_; rintro e w4 ⟨rfl, hb4⟩; have HB4 := Lib.hid (HB3.out.trans (hb4.mono (Below.size HB3.out))); clear hb4)
          | (go_at_call 17; have hh := HB2.out; clear hh; refine (KM.out _ _ HB2.out HQ2.out).mono ?_; rintro e w3 ⟨⟨a3, c3, rfl, hr3⟩, hb3⟩; have HB3 := Lib.hid (HB2.out.trans (hb3.mono (Below.size HB2.out))); clear hr3 hb3)
          | (go_at_call 17; refine (KN.out _ HBW.out).mono ?_; rintro e w2 ⟨⟨a2, c2, rfl, hr2⟩, hb2⟩; have HQ2 := Lib.hid (RdRules.up HQ.out hb2); have HB2 := Lib.hid (HBW.out.trans (hb2.mono (Below.size HBW.out))); clear hr2 hb2))
        go_ret
        exact ⟨rfl, HB4.out⟩
      all_goals
        rw [hz] at KW
        clear hz HWO
        generalize (wrongP p).2 = z2 at *
      · subst h1
        go_wp2_with (first
          | (go_at_call 39; have hh := HB3.out; clear hh; refine (KW.out _ HB3.out).mono ?_; rintro e w4 ⟨rfl, hb4⟩; have HB4 := Lib.hid (HB3.out.trans (hb4.mono (Below.size HB3.out))); clear hb4)
          | (go_at_call 17; have hh := HB2.out; clear hh; refine (KM.out _ _ HB2.out HQ2.out).mono ?_; rintro e w3 ⟨⟨a3, c3, rfl, hr3⟩, hb3⟩; have HB3 := Lib.hid (HB2.out.trans (hb3.mono (Below.size HB2.out))); clear hr3 hb3)
          | (go_at_call 17; refine (KN.out _ HBW.out).mono ?_; rintro e w2 ⟨⟨a2, c2, rfl, hr2⟩, hb2⟩; have HQ2 := Lib.hid (RdRules.up HQ.out hb2); have HB2 := Lib.hid (HBW.out.trans (hb2.mono (Below.size HBW.out))); clear hr2 hb2))
        go_ret
        exact ⟨rfl, HB4.out⟩
      · have g2 : (e0 == 4) = false := beq_eq_false_iff_ne.2 h1
        clear h1
        subst h2
        go_wp2_with (first
          | (go_at_call 39; have hh := HB3.out; clear hh; refine (KW.out _ HB3.out).mono ?_; rintro e w4 ⟨rfl, hb4⟩; have HB4 := Lib.hid (HB3.out.trans (hb4.mono (Below.size HB3.out))); clear hb4)
          | (go_at_call 17; have hh := HB2.out; clear hh; refine (KM.out _ _ HB2.out HQ2.out).mono ?_; rintro e w3 ⟨⟨a3, c3, rfl, hr3⟩, hb3⟩; have HB3 := Lib.hid (HB2.out.trans (hb3.mono (Below.size HB2.out))); clear hr3 hb3)
          | (go_at_call 17; refine (KN.out _ HBW.out).mono ?_; rintro e w2 ⟨⟨a2, c2, rfl, hr2⟩, hb2⟩; have HQ2 := Lib.hid (RdRules.up HQ.out hb2); have HB2 := Lib.hid (HBW.out.trans (hb2.mono (Below.size HBW.out))); clear hr2 hb2))
        go_ret
        exact ⟨rfl, HB4.out⟩
      · injection h3 with h3 h4
        subst h3 h4
        have g2 : (e0 == 4) = false := beq_eq_false_iff_ne.2 h1
        have g3 : (e0 == e0) = true := by simp
        clear h1 h2
        go_wp2_with (first
          | (go_at_call 19; refine (SM.out _ _ _ HM4.out HN4.out).mono ?_; rintro e w5 ⟨rfl, hf5⟩; have HB5 := Lib.hid (HB4.out.trans (hf5.below.mono (Below.size HB4.out))); clear hf5)
          | (go_at_call 39; have hh := HB3.out; clear hh; refine (KW.out _ HB3.out).mono ?_; rintro e w4 ⟨rfl, hb4⟩; have HM4 := Lib.hid (HM3.out.up hb4); have HN4 := Lib.hid (HN3.out.up hb4); have HB4 := Lib.hid (HB3.out.trans (hb4.mono (Below.size HB3.out))); clear hb4)
          | (go_at_call 17; have hh := HB2.out; clear hh; refine (KM.out _ _ HB2.out HQ2.out).mono ?_; rintro e w3 ⟨⟨a3, c3, rfl, hr3⟩, hb3⟩; have HM3 := Lib.hid (HM2.out.up hb3); have HN3 := Lib.hid hr3; have HB3 := Lib.hid (HB2.out.trans (hb3.mono (Below.size HB2.out))); clear hr3 hb3)
          | (go_at_call 17; refine (KN.out _ HBW.out).mono ?_; rintro e w2 ⟨⟨a2, c2, rfl, hr2⟩, hb2⟩; have HM2 := Lib.hid hr2; have HQ2 := Lib.hid (RdRules.up HQ.out hb2); have HB2 := Lib.hid (HBW.out.trans (hb2.mono (Below.size HBW.out))); clear hr2 hb2))
        go_ret
        exact ⟨ret_bool (by simp), HB5.out⟩
namespace naiveRules
theorem own : ownKnob Tryz.prog.godebug = none := by kernel_rfl

set_option maxRecDepth 100000 in
theorem contract (H : Type) (enc : TypeId × Value → H) (W : World) (base : Nat) (args : Array Value) (ds gs : List (DataW H)) (before : List MemPlace)
    (hval : ∀ (j : Nat) t v, Tryz.f6.params[j]? = some t → args[j]? = some v → Value.okWide Tryz.prog W .any base t v)
    (hW : DataW.Whole enc Tryz.prog Tryz.f6.params.toList Rows.naiveRulesSpec.vars false W args.toList ds gs before) (hk : Rows.uptoSmall H (ds ++ gs) = true) :
    Calls Tryz.prog 6 args W fun e W' => ∃ v, e = .returned v ∧ Rows.naiveRulesSpec.post enc Tryz.prog Tryz.f6 false true false false W args v W' := by
  have hW' := hW
  obtain ⟨p, q, hA0, hV, rfl, hfz, hnd⟩ := hW
  have hA : DataW.TrodAll enc Tryz.prog W 0 (fun _ => true) true Tryz.f6.params.toList args.toList ds p := hA0
  rw [Tryz.params6] at hA hval
  obtain ⟨v0, v1, d0, d1, p0, p1, rfl, rfl, rfl, h0, h1⟩ := trodAll_two hA
  obtain ⟨rfl, rfl⟩ := trodVars_none hV
  obtain ⟨x0, r0, s0⟩ := openRule.sliceArg Tryz.underlying23 (hval 0 23 v0 rfl rfl) h0
  obtain ⟨x1, r1, s1⟩ := openFact.sliceArg Tryz.underlying24 (hval 1 24 v1 rfl rfl) h1
  rw [List.append_nil] at hk
  have hb : Rows.uptoBulkAll [d0, d1] ≤ 1048576 := of_decide_eq_true hk
  simp only [Rows.uptoBulkAll] at hb
  obtain ⟨l0, m0, k0⟩ := rules_small (p := x0) (by omega)
  have l1 := sizeL_le openFact.one x1
  have m1 : ∀ z ∈ x1, z.args.length ≤ 1048576 := fun z hz => by have h1 := sizeL_mem (size := sizeFact) hz; have h2 := sizeL_le openStr.one z.args; simp only [sizeFact] at h1; omega
  refine (naiveRulesCalls x0 v0 x1 v1 W r0 r1 l0 m0 k0 (by omega) m1).mono fun e W' ⟨he, hb'⟩ => ?_
  subst he
  exact ⟨_, rfl, law_post (tb := 4) hW' rfl rfl (by kernel_rfl) Tryz.underlying4 (by kernel_rfl) (by kernel_rfl) hb'⟩

set_option maxRecDepth 100000 in
theorem lifted (os : Os) (started : os.Started) (H : Type) (enc : TypeId × Value → H) (F : Stop.Interp) :
    ReturnsInHanded {} Tryz.checked os 6 .any ((Rows.OpenSpec.upto Rows.naiveRulesSpec).pre6 enc Tryz.prog Tryz.f6 Rows.naiveRulesUptoRow.domain false) (((Rows.OpenSpec.upto Rows.naiveRulesSpec).at F).post enc Tryz.prog Tryz.f6 false true false false) := by
  refine returnsInHanded_of_cond (C := Tryz.checked) (s := Rows.OpenSpec.upto Rows.naiveRulesSpec) (k := Rows.uptoSmall) rfl own started (by kernel_rfl) Tryz.func6
    (OpenSpec.witness (enc := enc) (C := Tryz.checked) (s := Rows.OpenSpec.upto Rows.naiveRulesSpec) (k := Rows.uptoSmall) rfl false ⟨#[], #[.slice none 0 0, .slice none 0 0], []⟩ 8 (by kernel_rfl) (by kernel_rfl) (by kernel_rfl)
      (x := ([.nil, .nil], [], [])) (by kernel_rfl) rfl (by kernel_rfl)) ?_
  intro W base args ds gs before hval hW _ hk _
  exact contract H enc W base args ds gs before hval hW hk

theorem proved : Rows.NaiveRulesUptoSaid :=
  OpenClaim.holds_of_cond 6 Tryz.f6 rfl rfl rfl rfl rfl rfl rfl ⟨rfl, rfl, rfl, rfl, rfl⟩ rfl rfl rfl rfl rfl (by kernel_rfl) Tryz.func6 (by kernel_rfl)
    (of_decide_eq_true (by kernel_rfl)) (by unfold Func.isWrapper; first | (rw [if_pos (by decide +kernel)]; kernel_rfl) | (rw [if_neg (by decide +kernel)]; exact ⟨rfl, rfl⟩))
    (fun os started H enc _ F => lifted os started H enc F)
end naiveRules

end Go.Proofs.YtbbiapgkcekabaaGreat
