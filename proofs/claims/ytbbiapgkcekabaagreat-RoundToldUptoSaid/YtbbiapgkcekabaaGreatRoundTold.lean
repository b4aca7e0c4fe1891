/-
  corolaw6.RoundTold ALWAYS ANSWERS TRUE: told what follows, nothing is new: of a program that asks for nothing not to be so. For any arguments of ordinary size; without conditions.
-/
import Derived.Test.YtbbiapgkcekabaaGreatPk17
import Derived.Test.YtbbiapgkcekabaaGreatPk18
namespace Go.Proofs.YtbbiapgkcekabaaGreat
open Go.RowKit Go.ChangeShapes Go.WideShapes Go.Deep

theorem told_none (p : List PRule) : Plain (p.take 0) := fun r hr => by simp at hr
theorem told_snoc {p : List PRule} {k : Nat} {x : PRule} (h : Plain (p.take k)) (hx : p[k]? = some x) (hb : ∀ a ∈ x.body, a.neg = false) : Plain (p.take (k + 1)) := fun r hr => by
  rw [List.take_add_one, hx] at hr
  rcases List.mem_append.1 hr with hr | hr
  · exact h r hr
  · obtain rfl : r = x := by simpa using hr
    exact hb

attribute [local go_sem ↓] Go.wp_at_zero Go.wp_at_succ
set_option maxRecDepth 100000 in
set_option maxHeartbeats 8000000 in
theorem roundToldCalls {S S2 : Nat → Prop} (p : List PRule) (v : Value) (l : List PFact) (fv : Value) (w : World) (h : RdRules S w v p) (hf : RdFacts S2 w fv l)
    (n1 : p.length ≤ 1048576) (n2 : ∀ r ∈ p, RuleSmall r) (n3 : ∀ r ∈ p, NameSmall r) (n4 : l.length ≤ 1048576) (n5 : ∀ x ∈ l, x.args.length ≤ 1048576) :
    Calls Tryz.prog 12 #[v, fv] w fun e w' => e = .returned (.bool true) ∧ Below w.heap.size w w' := by
  obtain ⟨a, c, rfl, -, -, -⟩ := id h.form
  obtain ⟨fa, fc, rfl, -, -, -⟩ := id hf.form
  obtain ⟨st, q, hS⟩ := exists_strata p
  have KA := Lib.hid (alive6Calls w)
  have KB := Lib.hid (fun W gv (g : List PFact) (hW : Below w.heap.size w W) (hr : RdFacts (fun _ => True) W gv g) h1 h2 => allRunCalls p (.slice a p.length c) gv st q g W hS (h.up hW) hr n1 n2 n3 h1 h2)
  have HSM := Lib.hid (fun g => all_small hS (l := g))
  have HTO := Lib.hid (fun hp he => round_told (p := p) hp hS (l := l) he)
  have H := Lib.hid h
  have HFA := Lib.hid hf.any
  have N2 := Lib.hid n2
  have N5 := Lib.hid n5
  clear h hf n2 n3 n5 hS
  go_enter Tryz.func12, Tryz.ntmps12
  go_wp2_with (go_at_call 46; refine (KA.out).mono ?_; rintro e w1 ⟨rfl, hb1⟩; have HB1 := Lib.hid hb1; clear hb1)
  clear KA
  obtain ⟨wo, hwo⟩ : ∃ wo : World, wo = w1 := ⟨_, rfl⟩
  subst hwo
  have HBO := Lib.hid (Below.refl wo.heap.size wo)
  have HPN := Lib.hid (told_none p)
  go_loopw [16] (fun i wr => ∃ (k : Nat), k ≤ p.length ∧ i = .int .i64 k ∧ Hid (Plain (p.take k)) ∧ Hid (Below wo.heap.size wo wr)) (fun i _ => p.length - (intOf i).toNat)
  case atStart => exact ⟨0, Nat.zero_le _, rfl, HPN, HBO⟩
  case round =>
    clear HBO HPN
    obtain ⟨k, hk, rfl, HP, HB⟩ := hrel
    have HBW := Lib.hid (HB1.out.trans (HB.out.mono (Below.size HB1.out)))
    by_cases hlt : k < p.length
    · obtain ⟨x, hx⟩ : ∃ x, p[k]? = some x := ⟨_, List.getElem?_eq_getElem hlt⟩
      obtain ⟨b1, o1, ta, tc, ba, bc, rfl, hra⟩ := H.out.pick hx
      have HRA := Lib.hid hra
      have HBX := Lib.hid (HB.out.alloc (Below.size HB.out) (.cells #[.bool x.head.neg, .string x.head.name, .slice ta x.head.terms.length tc, .slice ba x.body.length bc] 43))
      obtain ⟨-, d0, d1, d2, d3, -, -⟩ := HRA.out.up HBW.out
      have HSN := Lib.hid (fun hb => told_snoc HP.out hx hb)
      have hbl := (N2.out x (List.mem_of_getElem? hx)).b0
      clear hx hra
      go_wp2
      clear d0 d1 d2 d3
      go_loopw [23] (fun i wr => ∃ (j : Nat), j ≤ x.body.length ∧ i = .int .i64 j ∧ Hid (∀ a ∈ x.body.take j, a.neg = false) ∧ Hid (Below wo.heap.size wo wr)) (fun i _ => x.body.length - (intOf i).toNat)
      case atStart => exact ⟨0, Nat.zero_le _, rfl, Lib.hid (by simp), HBX⟩
      case round =>
        clear HBX HB HBW
        obtain ⟨j, hj, rfl, HA, HB⟩ := hrel
        have HBW := Lib.hid (HB1.out.trans (HB.out.mono (Below.size HB1.out)))
        by_cases hlj : j < x.body.length
        · obtain ⟨y, hy⟩ : ∃ y, x.body[j]? = some y := ⟨_, List.getElem?_eq_getElem hlj⟩
          obtain ⟨b4, o4, yv, rfl, -, -, e0, e1, e2, hyv⟩ := RdAtoms.at (HRA.out.up HBW.out).b hy
          obtain ⟨ya, yc, rfl, -, -, -⟩ := id hyv.form
          have HB6 := Lib.hid (HB.out.alloc (Below.size HB.out) (.cells #[.bool y.neg, .string y.name, .slice ya y.terms.length yc] 40))
          have HA1 := Lib.hid (show y.neg = false → ∀ a ∈ x.body.take (j + 1), a.neg = false from fun h a ha => by
            rw [List.take_add_one, hy] at ha
            rcases List.mem_append.1 ha with ha | ha
            · exact HA.out a ha
            · obtain rfl : a = y := by simpa using ha
              exact h)
          clear hy hyv
          cases hn : y.neg
          · rw [hn] at e0 HB6
            have HA2 := Lib.hid (HA1.out hn)
            clear hn HA1
            go_wp2
            go_roundw
            case rel => exact ⟨j + 1, by omega, by go_num, HA2, HB6⟩
            case measure => simp [intOf]; omega
          · rw [hn] at e0 HB6
            clear hn HA1
            go_wp2
            go_ret
            exact ⟨rfl, HB1.out.trans (HB6.out.mono (Below.size HB1.out))⟩
        · have HP2 := Lib.hid (HSN.out (by have := HA.out; rwa [List.take_of_length_le (by omega)] at this))
          go_wp2
          go_roundw
          case rel => exact ⟨k + 1, by omega, by go_num, HP2, HB⟩
          case measure => simp [intOf]; omega
    · have HTO2 := Lib.hid (HTO.out (by have := HP.out; rwa [List.take_of_length_le (by omega)] at this))
      clear HP HTO H N2
      have KB1 := Lib.hid (fun W gv hW hr => KB.out W gv l hW hr n4 N5.out)
      have KB2 := Lib.hid (fun W gv hW hr => KB.out W gv (allRun st q.1 p l).1 hW hr (HSM.out l).1 (HSM.out l).2)
      have HS1 := Lib.hid (HSM.out l)
      clear KB HSM
      by_cases he0 : (allRun st q.1 p l).2 = 0
      case neg =>
        have g1 : ((allRun st q.1 p l).2 != 0) = true := by simpa using he0
        clear he0 HTO2 KB2
        generalize allRun st q.1 p l = r1 at *
        obtain ⟨m, e0⟩ := r1
        dsimp only at *
        go_wp2_with (go_at_call 47; refine (KB1.out _ _ HBW.out (HFA.out.up HBW.out)).mono ?_; rintro e w2 ⟨hb2, a2, c2, rfl, hr2⟩; have HB2 := Lib.hid (HBW.out.trans (hb2.mono (Below.size HBW.out))); clear hr2 hb2)
        go_ret
        exact ⟨rfl, HB2.out⟩
      have hto := HTO2.out he0
      clear HTO2
      by_cases h4 : (allRun st q.1 p (allRun st q.1 p l).1).2 = 4
      · clear hto
        generalize allRun st q.1 p (allRun st q.1 p l).1 = r2 at *
        generalize allRun st q.1 p l = r1 at *
        obtain ⟨m, e0⟩ := r1
        obtain ⟨m2, e2⟩ := r2
        dsimp only at *
        subst he0
        subst h4
        go_wp2_with (first
          | (go_at_call 47; have hh := HX2.out; clear hh; refine (KB2.out _ _ HB2.out HX2.out).mono ?_; rintro e w3 ⟨hb3, a3, c3, rfl, hr3⟩; have HB3 := Lib.hid (HB2.out.trans (hb3.mono (Below.size HB2.out))); clear hr3 hb3)
          | (go_at_call 47; refine (KB1.out _ _ HBW.out (HFA.out.up HBW.out)).mono ?_; rintro e w2 ⟨hb2, a2, c2, rfl, hr2⟩; have HB2 := Lib.hid (HBW.out.trans (hb2.mono (Below.size HBW.out))); have HX2 := Lib.hid hr2; clear hr2 hb2))
        go_ret
        exact ⟨ret_bool (by simp), HB3.out⟩
      · rcases hto with hto | hto
        case inr => exact absurd hto h4
        rw [hto] at KB2
        clear hto h4
        generalize allRun st q.1 p l = r1 at *
        obtain ⟨m, e0⟩ := r1
        dsimp only at *
        subst he0
        go_wp2_with (first
          | (go_at_call 19; have hh := HY3.out; clear hh; refine (sameRefl HY3.out HX3.out HS1.out.1 HS1.out.2).mono ?_; rintro e w4 ⟨rfl, hb4⟩; have HB4 := Lib.hid (HB3.out.trans (hb4.mono (Below.size HB3.out))); clear hb4)
          | (go_at_call 47; have hh := HX2.out; clear hh; refine (KB2.out _ _ HB2.out HX2.out).mono ?_; rintro e w3 ⟨hb3, a3, c3, rfl, hr3⟩; have HB3 := Lib.hid (HB2.out.trans (hb3.mono (Below.size HB2.out))); have HX3 := Lib.hid (HX2.out.up hb3); have HY3 := Lib.hid hr3; clear hr3 hb3)
          | (go_at_call 47; refine (KB1.out _ _ HBW.out (HFA.out.up HBW.out)).mono ?_; rintro e w2 ⟨hb2, a2, c2, rfl, hr2⟩; have HB2 := Lib.hid (HBW.out.trans (hb2.mono (Below.size HBW.out))); have HX2 := Lib.hid hr2; clear hr2 hb2))
        go_ret
        exact ⟨ret_bool (by simp), HB4.out⟩
namespace roundTold
theorem own : ownKnob Tryz.prog.godebug = none := by kernel_rfl

set_option maxRecDepth 100000 in
theorem contract (H : Type) (enc : TypeId × Value → H) (W : World) (base : Nat) (args : Array Value) (ds gs : List (DataW H)) (before : List MemPlace)
    (hval : ∀ (j : Nat) t v, Tryz.f12.params[j]? = some t → args[j]? = some v → Value.okWide Tryz.prog W .any base t v)
    (hW : DataW.Whole enc Tryz.prog Tryz.f12.params.toList Rows.roundToldSpec.vars false W args.toList ds gs before) (hk : Rows.uptoSmall H (ds ++ gs) = true) :
    Calls Tryz.prog 12 args W fun e W' => ∃ v, e = .returned v ∧ Rows.roundToldSpec.post enc Tryz.prog Tryz.f12 false true false false W args v W' := by
  have hW' := hW
  obtain ⟨p, q, hA0, hV, rfl, hfz, hnd⟩ := hW
  have hA : DataW.TrodAll enc Tryz.prog W 0 (fun _ => true) true Tryz.f12.params.toList args.toList ds p := hA0
  rw [Tryz.params12] at hA hval
  obtain ⟨v0, v1, d0, d1, p0, p1, rfl, rfl, rfl, h0, h1⟩ := trodAll_two hA
  obtain ⟨rfl, rfl⟩ := trodVars_none hV
  obtain ⟨x0, r0, s0⟩ := openRule.sliceArg Tryz.underlying23 (hval 0 23 v0 rfl rfl) h0
  obtain ⟨x1, r1, s1⟩ := openFact.sliceArg Tryz.underlying24 (hval 1 24 v1 rfl rfl) h1
  rw [List.append_nil] at hk
  have hb : Rows.uptoBulkAll [d0, d1] ≤ 1048576 := of_decide_eq_true hk
  simp only [Rows.uptoBulkAll] at hb
  obtain ⟨l0, m0, k0⟩ := rules_small (p := x0) (by omega)
  have l1 := sizeL_le openFact.one x1
  have m1 : ∀ z ∈ x1, z.args.length ≤ 1048576 := fun z hz => by have h1 := sizeL_mem (size := sizeFact) hz; have h2 := sizeL_le openStr.one z.args; simp only [sizeFact] at h1; omega
  refine (roundToldCalls x0 v0 x1 v1 W r0 r1 l0 m0 k0 (by omega) m1).mono fun e W' ⟨he, hb'⟩ => ?_
  subst he
  exact ⟨_, rfl, law_post (tb := 4) hW' rfl rfl (by kernel_rfl) Tryz.underlying4 (by kernel_rfl) (by kernel_rfl) hb'⟩

set_option maxRecDepth 100000 in
theorem lifted (os : Os) (started : os.Started) (H : Type) (enc : TypeId × Value → H) (F : Stop.Interp) :
    ReturnsInHanded {} Tryz.checked os 12 .any ((Rows.OpenSpec.upto Rows.roundToldSpec).pre6 enc Tryz.prog Tryz.f12 Rows.roundToldUptoRow.domain false) (((Rows.OpenSpec.upto Rows.roundToldSpec).at F).post enc Tryz.prog Tryz.f12 false true false false) := by
  refine returnsInHanded_of_cond (C := Tryz.checked) (s := Rows.OpenSpec.upto Rows.roundToldSpec) (k := Rows.uptoSmall) rfl own started (by kernel_rfl) Tryz.func12
    (OpenSpec.witness (enc := enc) (C := Tryz.checked) (s := Rows.OpenSpec.upto Rows.roundToldSpec) (k := Rows.uptoSmall) rfl false ⟨#[], #[.slice none 0 0, .slice none 0 0], []⟩ 8 (by kernel_rfl) (by kernel_rfl) (by kernel_rfl)
      (x := ([.nil, .nil], [], [])) (by kernel_rfl) rfl (by kernel_rfl)) ?_
  intro W base args ds gs before hval hW _ hk _
  exact contract H enc W base args ds gs before hval hW hk

theorem proved : Rows.RoundToldUptoSaid :=
  OpenClaim.holds_of_cond 12 Tryz.f12 rfl rfl rfl rfl rfl rfl rfl ⟨rfl, rfl, rfl, rfl, rfl⟩ rfl rfl rfl rfl rfl (by kernel_rfl) Tryz.func12 (by kernel_rfl)
    (of_decide_eq_true (by kernel_rfl)) (by unfold Func.isWrapper; first | (rw [if_pos (by decide +kernel)]; kernel_rfl) | (rw [if_neg (by decide +kernel)]; exact ⟨rfl, rfl⟩))
    (fun os started H enc _ F => lifted os started H enc F)
end roundTold
end Go.Proofs.YtbbiapgkcekabaaGreat
