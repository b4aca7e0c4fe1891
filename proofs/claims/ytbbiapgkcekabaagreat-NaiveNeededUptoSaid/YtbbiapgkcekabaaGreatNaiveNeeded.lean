/-
  corolaw5.NaiveNeeded ALWAYS ANSWERS TRUE: and nothing else: each fact that is there was told, or a rule makes it of what is there. For any arguments of ordinary size; without conditions.
-/
import Derived.Test.YtbbiapgkcekabaaGreatPk15
namespace Go.Proofs.YtbbiapgkcekabaaGreat
open Go.RowKit Go.ChangeShapes Go.WideShapes Go.Deep

/-- What was told, and what rules make. -/
def MadeUp (p : List PRule) (l m o : List PFact) : Prop := Rising o ∧ ∀ x, x ∈ o ↔ x ∈ l ∨ ∃ r ∈ p, Derives r m x
theorem made_all {p : List PRule} {l m o : List PFact} (hF : Follows p l m) (h : MadeUp p l m o) : o = m :=
  rising_ext h.1 hF.rise fun x => (h.2 x).trans ⟨fun hx => hx.elim (hF.sub x) fun ⟨r, hr, hd⟩ => hF.closed r hr x hd, fun hx => hF.made x hx⟩
theorem made_none {l m : List PFact} : MadeUp [] l m (ofF l) := ⟨ofF_rising l, fun x => by rw [mem_ofF]; simp⟩
theorem made_snoc {p : List PRule} {l m o : List PFact} {k : Nat} {r : PRule} (h : MadeUp (p.take k) l m o) (hr : p[k]? = some r) (h0 : (headsP r m).2 = 0) : MadeUp (p.take (k + 1)) l m (joinF o (headsP r m).1) :=
  ⟨ofF_rising _, fun x => by
    rw [mem_joinF, h.2, mem_heads h0, List.take_add_one, hr]
    simp only [Option.toList, List.mem_append, List.mem_singleton]
    constructor
    · rintro ((h | ⟨r', h1, h2⟩) | h)
      · exact .inl h
      · exact .inr ⟨r', .inl h1, h2⟩
      · exact .inr ⟨r, .inr rfl, h⟩
    · rintro (h | ⟨r', h1 | rfl, h2⟩)
      · exact .inl (.inl h)
      · exact .inl (.inr ⟨r', h1, h2⟩)
      · exact .inr h2⟩
theorem ofReads {S : Nat → Prop} {v : Value} {l : List PFact} {w : World} (h : RdFacts S w v l) (n1 : l.length ≤ 1048576) (n2 : ∀ x ∈ l, x.args.length ≤ 1048576) :
    Calls Tryz.prog 37 #[v] w fun e w' => (∃ a c, e = .returned (.slice a (ofF l).length c) ∧ RdFacts (fun _ => True) w' (.slice a (ofF l).length c) (ofF l)) ∧ Below w.heap.size w w' :=
  ofKnown rfl rfl h (by omega) (fun x hx => by have := n2 x hx; omega)

attribute [local go_sem ↓] Go.wp_at_zero Go.wp_at_succ
set_option maxRecDepth 100000 in
set_option maxHeartbeats 8000000 in
theorem naiveNeededCalls {S S2 : Nat → Prop} (p : List PRule) (v : Value) (l : List PFact) (fv : Value) (w : World) (h : RdRules S w v p) (hf : RdFacts S2 w fv l)
    (n1 : p.length ≤ 1048576) (n2 : ∀ r ∈ p, RuleSmall r) (n3 : ∀ r ∈ p, NameSmall r) (n4 : l.length ≤ 1048576) (n5 : ∀ x ∈ l, x.args.length ≤ 1048576) :
    Calls Tryz.prog 5 #[v, fv] w fun e w' => e = .returned (.bool true) ∧ Below w.heap.size w w' := by
  obtain ⟨a, c, rfl, -, -, -⟩ := id h.form
  obtain ⟨fa, fc, rfl, -, -, -⟩ := id hf.form
  obtain ⟨st, q, hS⟩ := exists_strata p
  have KA := Lib.hid (alive5Calls w)
  have KN := Lib.hid (fun W (hW : Below w.heap.size w W) => naiveReads p (.slice a p.length c) (.slice fa l.length fc) st q l W hS (h.up hW) (hf.up hW) n1 n2 n3 n4 n5)
  have H := Lib.hid h
  have HFA := Lib.hid hf
  have N2 := Lib.hid n2
  have N5 := Lib.hid n5
  have HFO := Lib.hid (naive_follows hS (l := l))
  have KO := Lib.hid (fun W (hW : Below w.heap.size w W) => ofReads (v := .slice fa l.length fc) (l := l) (hf.up hW) n4 n5)
  have H16 := Lib.hid (fun (h0 : (naiveP st q.1 p l).2 = 0) => (strata_bd hS (naive_zero (l := l) h0).1).2.1)
  clear h hf n2 n3 n5 hS
  generalize naiveP st q.1 p l = r at *
  obtain ⟨m, e0⟩ := r
  dsimp only at *
  by_cases he : e0 = 0
  case neg =>
    have g1 : (e0 != 0) = true := by simpa using he
    clear he HFO
    go_enter Tryz.func5, Tryz.ntmps5
    go_wp2_with (first
      | (go_at_call 36; refine (KA.out).mono ?_; rintro e w1 ⟨rfl, hb1⟩; have HB1 := Lib.hid hb1; clear hb1)
      | (go_at_call 17; refine (KN.out _ HB1.out).mono ?_; rintro e w2 ⟨⟨a2, c2, rfl, hr2⟩, hb2⟩; have HB2 := Lib.hid (HB1.out.trans (hb2.mono (Below.size HB1.out))); clear hr2 hb2))
    go_ret
    exact ⟨rfl, HB2.out⟩
  subst he
  obtain ⟨hF, hset, hR⟩ := HFO.out rfl
  have HF := Lib.hid hF
  have HR := Lib.hid hR
  have hml := hF.len
  have h16 := H16.out rfl
  have hll := (good_of hset).len
  have HMA := Lib.hid (good_args hF.good)
  have HO0 := Lib.hid (ofF_length l)
  have HOA := Lib.hid (show ∀ x ∈ ofF l, x.args.length ≤ 1048576 from fun x hx => N5.out x ((mem_ofF x l).1 hx))
  have HMU0 := Lib.hid (made_none (l := l) (m := m))
  clear hF hR hset HFO H16
  generalize ofF l = o0 at *
  go_enter Tryz.func5, Tryz.ntmps5
  go_wp2_with (first
    | (go_at_call 36; refine (KA.out).mono ?_; rintro e w1 ⟨rfl, hb1⟩; have HB1 := Lib.hid hb1; clear hb1)
    | (go_at_call 37; have hh := HM2.out; clear hh; refine (KO.out _ HB2.out).mono ?_; rintro e w3 ⟨⟨a3, c3, rfl, hr3⟩, hb3⟩; have HO3 := Lib.hid hr3; have HB3 := Lib.hid (HB2.out.trans (hb3.mono (Below.size HB2.out))); have HM3 := Lib.hid (HM2.out.up hb3); clear hr3 hb3)
    | (go_at_call 17; have hh := HB1.out; clear hh; refine (KN.out _ HB1.out).mono ?_; rintro e w2 ⟨⟨a2, c2, rfl, hr2⟩, hb2⟩; have HM2 := Lib.hid hr2; have HB2 := Lib.hid (HB1.out.trans (hb2.mono (Below.size HB1.out))); clear hr2 hb2))
  clear HB1 HB2 HM2 KA KN KO
  obtain ⟨wo, hwo⟩ : ∃ wo : World, wo = w3 := ⟨_, rfl⟩
  subst hwo
  have HBO := Lib.hid (Below.refl wo.heap.size wo)
  have hol : o0.length ≤ 1048576 := by have := HO0.out; omega
  have HTK := Lib.hid (show MadeUp (p.take 0) l m o0 from HMU0.out)
  have hol2 : o0.length ≤ 200 + 0 * 20000 := by have := HO0.out; omega
  go_loopw [26, 7] (fun i v wr => ∃ (k : Nat) (o : List PFact), k ≤ p.length ∧ i = .int .i64 k ∧ o.length ≤ 200 + k * 20000 ∧ Hid (∀ x ∈ o, x.args.length ≤ 1048576) ∧ Hid (MadeUp (p.take k) l m o) ∧ Hid (RdFacts (fun _ => True) wr v o) ∧ Hid (Below wo.heap.size wo wr)) (fun i _ _ => p.length - (intOf i).toNat)
  case atStart => exact ⟨0, o0, Nat.zero_le _, rfl, hol2, HOA, HTK, HO3, HBO⟩
  case round =>
    clear HBO HO3 HTK HMU0 HOA hol hol2
    obtain ⟨k, o, hk, rfl, hol, HOA, HMD, HO, HB⟩ := hrel
    obtain ⟨oa, oc, efm, -, -, -⟩ := id HO.out.form
    subst efm
    have HBW := Lib.hid (HB3.out.trans (HB.out.mono (Below.size HB3.out)))
    by_cases hlt : k < p.length
    · obtain ⟨x, hx⟩ : ∃ x, p[k]? = some x := ⟨_, List.getElem?_eq_getElem hlt⟩
      have hmem := List.mem_of_getElem? hx
      obtain ⟨b1, o1, ta, tc, ba, bc, rfl, hra⟩ := H.out.pick hx
      have HRA := Lib.hid hra
      obtain ⟨-, d0, d1, d2, d3, -, -⟩ := HRA.out.up HBW.out
      have hbx : Below wr.heap.size wr (wr.alloc (.cells #[.bool x.head.neg, .string x.head.name, .slice ta x.head.terms.length tc, .slice ba x.body.length bc] 43)) := (Below.refl _ _).alloc (Nat.le_refl _) _
      have HB1 := Lib.hid (HB.out.trans (hbx.mono (Below.size HB.out)))
      have HO1 := Lib.hid (HO.out.up hbx)
      have HBW1 := Lib.hid (HB3.out.trans (HB1.out.mono (Below.size HB3.out)))
      have HM1 := Lib.hid (HM3.out.up HB1.out)
      have KH := Lib.hid (headsReads x _ _ _ m _ (HRA.out.up HBW1.out).t (HRA.out.up HBW1.out).b HM1.out (N2.out x hmem) (by omega) HMA.out)
      have HMU := Lib.hid (heads_much (l := m) (ruleBad_zero (HR.out x hmem)).2.2.1 (by rw [HF.out.set]))
      have HHL := Lib.hid (heads_len x m)
      have HHA := Lib.hid (show ∀ y ∈ (headsP x m).1, y.args.length ≤ 1048576 from fun y hy => by rw [heads_args hy]; exact (N2.out x hmem).h1)
      have HSN := Lib.hid (made_snoc HMD.out hx)
      have hk16 : o.length ≤ 1048576 := by omega
      clear hx hmem hra hbx
      generalize headsP x m = r at *
      obtain ⟨hl, e1⟩ := r
      dsimp only at *
      have hhl := HHL.out
      by_cases he : e1 = 0
      case neg =>
        obtain rfl := HMU.out he
        go_wp2_with (go_at_call 25; refine (KH.out).mono ?_; rintro e w5 ⟨⟨a5, c5, rfl, hr5⟩, hb5⟩; have HB5 := Lib.hid (HBW1.out.trans (hb5.mono (Below.size HBW1.out))); clear hr5 hb5)
        go_ret
        exact ⟨rfl, HB5.out⟩
      subst he
      have HSN2 := Lib.hid (HSN.out rfl)
      have KJ := Lib.hid (fun W va vb (h1 : RdFacts (fun _ => True) W va o) (h2 : RdFacts (fun _ => True) W vb hl) => joinReads h1 h2 hk16 (by omega) HOA.out HHA.out)
      have HJA := Lib.hid (show ∀ y ∈ joinF o hl, y.args.length ≤ 1048576 from fun y hy => by
        rcases (mem_joinF _ _ y).1 hy with h | h
        · exact HOA.out y h
        · exact HHA.out y h)
      have hjl : (joinF o hl).length ≤ 200 + (k + 1) * 20000 := by
        have := ofF_length (o ++ hl)
        rw [List.length_append] at this
        have h2 : (joinF o hl).length = (ofF (o ++ hl)).length := rfl
        omega
      clear HSN HMU
      generalize joinF o hl = j at *
      go_wp2_with (first
        | (go_at_call 25; refine (KH.out).mono ?_; rintro e w5 ⟨⟨a5, c5, rfl, hr5⟩, hb5⟩; have HH5 := Lib.hid hr5; have HB5 := Lib.hid (HB1.out.trans (hb5.mono (Below.size HB1.out))); have HO5 := Lib.hid (HO1.out.up hb5); clear hr5 hb5)
        | (go_at_call 38; refine (KJ.out _ _ _ HO5.out HH5.out).mono ?_; rintro e w6 ⟨⟨a6, c6, rfl, hr6⟩, hb6⟩; have HO6 := Lib.hid hr6; have HB6 := Lib.hid (HB5.out.trans (hb6.mono (Below.size HB5.out))); clear hr6 hb6))
      go_roundw
      case rel => exact ⟨k + 1, j, by omega, by go_num, hjl, HJA, HSN2, HO6, HB6⟩
      case measure => simp [intOf]; omega
    · have hom : o = m := made_all HF.out (by have := HMD.out; rwa [List.take_of_length_le (by omega)] at this)
      have KS := Lib.hid (sameRef _ _ o m wr HO.out (HM3.out.up HB.out) (by omega) (fun x hx => by have := HOA.out x hx; omega) (fun x hx => by have := HMA.out x hx; omega))
      have HOM := Lib.hid hom
      clear hom
      go_wp2_with (go_at_call 19; refine (KS.out).mono ?_; rintro e w5 ⟨rfl, hf5⟩; have HB5 := Lib.hid (HBW.out.trans (hf5.below.mono (Below.size HBW.out))); clear hf5)
      go_ret
      exact ⟨ret_bool (by rw [HOM.out]; simp), HB5.out⟩
namespace naiveNeeded
theorem own : ownKnob Tryz.prog.godebug = none := by kernel_rfl

set_option maxRecDepth 100000 in
theorem contract (H : Type) (enc : TypeId × Value → H) (W : World) (base : Nat) (args : Array Value) (ds gs : List (DataW H)) (before : List MemPlace)
    (hval : ∀ (j : Nat) t v, Tryz.f5.params[j]? = some t → args[j]? = some v → Value.okWide Tryz.prog W .any base t v)
    (hW : DataW.Whole enc Tryz.prog Tryz.f5.params.toList Rows.naiveNeededSpec.vars false W args.toList ds gs before) (hk : Rows.uptoSmall H (ds ++ gs) = true) :
    Calls Tryz.prog 5 args W fun e W' => ∃ v, e = .returned v ∧ Rows.naiveNeededSpec.post enc Tryz.prog Tryz.f5 false true false false W args v W' := by
  have hW' := hW
  obtain ⟨p, q, hA0, hV, rfl, hfz, hnd⟩ := hW
  have hA : DataW.TrodAll enc Tryz.prog W 0 (fun _ => true) true Tryz.f5.params.toList args.toList ds p := hA0
  rw [Tryz.params5] at hA hval
  obtain ⟨v0, v1, d0, d1, p0, p1, rfl, rfl, rfl, h0, h1⟩ := trodAll_two hA
  obtain ⟨rfl, rfl⟩ := trodVars_none hV
  obtain ⟨x0, r0, s0⟩ := openRule.sliceArg Tryz.underlying23 (hval 0 23 v0 rfl rfl) h0
  obtain ⟨x1, r1, s1⟩ := openFact.sliceArg Tryz.underlying24 (hval 1 24 v1 rfl rfl) h1
  rw [List.append_nil] at hk
  have hb : Rows.uptoBulkAll [d0, d1] ≤ 1048576 := of_decide_eq_true hk
  simp only [Rows.uptoBulkAll] at hb
  obtain ⟨l0, m0, k0⟩ := rules_small (p := x0) (by omega)
  have l1 := sizeL_le openFact.one x1
  have m1 : ∀ z ∈ x1, z.args.length ≤ 1048576 := fun z hz => by have h1 := sizeL_mem (size := sizeFact) hz; have h2 := sizeL_le openStr.one z.args; simp only [sizeFact] at h1; omega
  refine (naiveNeededCalls x0 v0 x1 v1 W r0 r1 l0 m0 k0 (by omega) m1).mono fun e W' ⟨he, hb'⟩ => ?_
  subst he
  exact ⟨_, rfl, law_post (tb := 4) hW' rfl rfl (by kernel_rfl) Tryz.underlying4 (by kernel_rfl) (by kernel_rfl) hb'⟩

set_option maxRecDepth 100000 in
theorem lifted (os : Os) (started : os.Started) (H : Type) (enc : TypeId × Value → H) (F : Stop.Interp) :
    ReturnsInHanded {} Tryz.checked os 5 .any ((Rows.OpenSpec.upto Rows.naiveNeededSpec).pre6 enc Tryz.prog Tryz.f5 Rows.naiveNeededUptoRow.domain false) (((Rows.OpenSpec.upto Rows.naiveNeededSpec).at F).post enc Tryz.prog Tryz.f5 false true false false) := by
  refine returnsInHanded_of_cond (C := Tryz.checked) (s := Rows.OpenSpec.upto Rows.naiveNeededSpec) (k := Rows.uptoSmall) rfl own started (by kernel_rfl) Tryz.func5
    (OpenSpec.witness (enc := enc) (C := Tryz.checked) (s := Rows.OpenSpec.upto Rows.naiveNeededSpec) (k := Rows.uptoSmall) rfl false ⟨#[], #[.slice none 0 0, .slice none 0 0], []⟩ 8 (by kernel_rfl) (by kernel_rfl) (by kernel_rfl)
      (x := ([.nil, .nil], [], [])) (by kernel_rfl) rfl (by kernel_rfl)) ?_
  intro W base args ds gs before hval hW _ hk _
  exact contract H enc W base args ds gs before hval hW hk

theorem proved : Rows.NaiveNeededUptoSaid :=
  OpenClaim.holds_of_cond 5 Tryz.f5 rfl rfl rfl rfl rfl rfl rfl ⟨rfl, rfl, rfl, rfl, rfl⟩ rfl rfl rfl rfl rfl (by kernel_rfl) Tryz.func5 (by kernel_rfl)
    (of_decide_eq_true (by kernel_rfl)) (by unfold Func.isWrapper; first | (rw [if_pos (by decide +kernel)]; kernel_rfl) | (rw [if_neg (by decide +kernel)]; exact ⟨rfl, rfl⟩))
    (fun os started H enc _ F => lifted os started H enc F)
end naiveNeeded

end Go.Proofs.YtbbiapgkcekabaaGreat
