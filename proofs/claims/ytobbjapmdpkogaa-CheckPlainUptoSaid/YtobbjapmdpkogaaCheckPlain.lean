/-
  CLAIM: CheckPlain: of any program and any number, of bulk at most 1048576 together, the law answers true and leaves its arguments as they were.
-/
import Derived.Test.YtobbjapmdpkogaaAlive3
import Derived.Test.YtobbjapmdpkogaaRulesIn
import Derived.Test.YtobbjapmdpkogaaRowCut
namespace Go.Proofs.Ytobbjapmdpkogaa
open Go.RowKit Go.ChangeShapes Go.WideShapes Go.ChangeAt

theorem plain_strata {p : List PRule} (hw : (wrongP p).1 = 0) (hn : ∀ r ∈ p, ∀ a ∈ r.body, a.neg = false) (m : Nat) : StrataIs (p.take m) (List.replicate (p.take m).length 0) (0, 0) := by
  refine .inr ⟨wrongP_take m hw, .inl ⟨_, least_plain (fun r hr => hn r (List.mem_of_mem_take hr)), ?_, rfl⟩⟩
  rw [← List.map_const']
  rfl

attribute [local go_sem ↓] Go.wp_at_zero Go.wp_at_succ
set_option maxRecDepth 100000 in
set_option maxHeartbeats 8000000 in
theorem checkPlainCalls (p : List PRule) (v : Value) (n : Int) (w : World) (h : RdRules (fun _ => True) w v p) (n1 : p.length ≤ 1048576) (n2 : ∀ r ∈ p, RuleSmall r) (n3 : ∀ r ∈ p, NameSmall r) :
    Calls Try.prog 8 #[v, .int .i64 n] w fun e w' => e = .returned (.bool true) ∧ Below w.heap.size w w' := by
  obtain ⟨a, c, rfl, hc1, hc2, hc3⟩ := id h.form
  have H := Lib.hid h
  have N2 := Lib.hid n2
  have N3 := Lib.hid n3
  clear h n2 n3
  have hfd : ∀ (x y : Int) (w : World), (Instr.field 26 (.agg #[.int .i64 x, .int .i64 y]) 0).run Try.prog w = .ok (.int .i64 x) w := fun _ _ _ => by kernel_rfl
  have KW := Lib.hid (fun (W : World) (hW : Below w.heap.size w W) => wrongCalls p (.slice a p.length c) W (H.out.up hW) n1 N2.out N3.out)
  by_cases hz : (wrongP p).1 = 0
  rotate_left
  · have hne : ((wrongP p).1 != 0) = true := by simpa using hz
    clear hz
    generalize wrongP p = q at *
    obtain ⟨q1, q2⟩ := q
    go_enter Try.func8, Try.ntmps8
    go_wp2_with (first
      | (go_at_call 10; refine (KW.out _ HB1.out).mono ?_; rintro e w2 ⟨rfl, hb2⟩; have HB2 := Lib.hid (HB1.out.trans (hb2.mono HB1.out.size)); clear hb2)
      | (go_at_call 31; refine (alive3Calls _).mono ?_; rintro e w1 ⟨rfl, hb1⟩; have HB1 := Lib.hid hb1; clear hb1))
    go_wp2
    go_ret
    exact ⟨rfl, HB2.out⟩
  have HZ := Lib.hid hz
  rw [hz] at KW
  generalize (wrongP p).2 = q2 at KW
  clear hz
  by_cases hneg : n < 0
  · go_enter Try.func8, Try.ntmps8
    go_wp2_with (first
      | (go_at_call 10; refine (KW.out _ HB1.out).mono ?_; rintro e w2 ⟨rfl, hb2⟩; have HB2 := Lib.hid (HB1.out.trans (hb2.mono HB1.out.size)); clear hb2)
      | (go_at_call 31; refine (alive3Calls _).mono ?_; rintro e w1 ⟨rfl, hb1⟩; have HB1 := Lib.hid hb1; clear hb1))
    go_wp2
    go_ret
    exact ⟨rfl, HB2.out⟩
  obtain ⟨m, rfl⟩ : ∃ m : Nat, n = (m : Int) := ⟨n.toNat, by omega⟩
  clear hneg
  have hm0 : ¬ ((m : Int) < 0) := by omega
  by_cases hgt : p.length < m
  · have hgt' : ((p.length : Int) < (m : Int)) := by omega
    go_enter Try.func8, Try.ntmps8
    go_wp2_with (first
      | (go_at_call 10; refine (KW.out _ HB1.out).mono ?_; rintro e w2 ⟨rfl, hb2⟩; have HB2 := Lib.hid (HB1.out.trans (hb2.mono HB1.out.size)); clear hb2)
      | (go_at_call 31; refine (alive3Calls _).mono ?_; rintro e w1 ⟨rfl, hb1⟩; have HB1 := Lib.hid hb1; clear hb1))
    go_wp2
    go_ret
    exact ⟨rfl, HB2.out⟩
  have hgt' : ¬ ((p.length : Int) < (m : Int)) := by omega
  have hml : m ≤ p.length := by omega
  clear hgt
  go_enter Try.func8, Try.ntmps8
  go_wp2_with (first
    | (go_at_call 10; refine (KW.out _ HB1.out).mono ?_; rintro e w2 ⟨rfl, hb2⟩; have HB2 := Lib.hid (HB1.out.trans (hb2.mono HB1.out.size)); clear hb2)
    | (go_at_call 31; refine (alive3Calls _).mono ?_; rintro e w1 ⟨rfl, hb1⟩; have HB1 := Lib.hid hb1; clear hb1))
  clear HB1 KW
  go_loopw [31] (fun i wr => ∃ k : Nat, k ≤ p.length ∧ i = .int .i64 k ∧ Hid (Below w.heap.size w wr) ∧ Hid (∀ r ∈ p.take k, ∀ a ∈ r.body, a.neg = false)) (fun i _ => p.length - (intOf i).toNat)
  case atStart => exact ⟨0, Nat.zero_le _, rfl, HB2, Lib.hid (by simp)⟩
  case round =>
    clear HB2
    obtain ⟨k, hk, rfl, HB, HN⟩ := hrel
    by_cases hlt : k < p.length
    · obtain ⟨x, hx⟩ : ∃ x, p[k]? = some x := ⟨_, List.getElem?_eq_getElem hlt⟩
      have hmem := List.mem_of_getElem? hx
      obtain ⟨b1, o1, tv, bv, rfl, -, hb1, d0, d1, d2, d3, htv, hbv⟩ := RdRules.at H.out hx
      obtain ⟨ta, tc, rfl, -, -, -⟩ := id htv.form
      obtain ⟨ba, bc, rfl, -, -, -⟩ := id hbv.form
      have HRA := Lib.hid (show RuleAt (fun _ => True) w b1 (o1 + k * 4) x (.slice ta x.head.terms.length tc) (.slice ba x.body.length bc) from ⟨hb1, d0, d1, d2, d3, htv, hbv⟩)
      have hb0 := (N2.out x hmem).b0
      have HTK := Lib.hid (show p.take (k + 1) = p.take k ++ [x] by rw [List.take_add_one, hx]; rfl)
      clear d0 d1 d2 d3
      obtain ⟨-, d0, d1, d2, d3, -, -⟩ := HRA.out.up HB.out
      have HB3 := Lib.hid (HB.out.alloc HB.out.size (.cells #[.bool x.head.neg, .string x.head.name, .slice ta x.head.terms.length tc, .slice ba x.body.length bc] 33))
      clear hx hmem htv hbv
      go_wp2
      clear d0 d1 d2 d3
      go_loopw [38] (fun i wr => ∃ j : Nat, j ≤ x.body.length ∧ i = .int .i64 j ∧ Hid (Below w.heap.size w wr) ∧ Hid (∀ a ∈ x.body.take j, a.neg = false)) (fun i _ => x.body.length - (intOf i).toNat)
      case atStart => exact ⟨0, Nat.zero_le _, rfl, HB3, Lib.hid (by simp)⟩
      case round =>
        clear HB3 HB
        obtain ⟨j, hj, rfl, HB, HJ⟩ := hrel
        by_cases hlj : j < x.body.length
        · obtain ⟨y, hy⟩ : ∃ y, x.body[j]? = some y := ⟨_, List.getElem?_eq_getElem hlj⟩
          obtain ⟨b4, o4, yv, rfl, -, hb4, e0, e1, e2, hyv⟩ := RdAtoms.at ((HRA.out.up HB.out).b) hy
          obtain ⟨ya, yc, rfl, -, -, -⟩ := id hyv.form
          have HTJ := Lib.hid (show x.body.take (j + 1) = x.body.take j ++ [y] by rw [List.take_add_one, hy]; rfl)
          have HB4 := Lib.hid (HB.out.alloc HB.out.size (.cells #[.bool y.neg, .string y.name, .slice ya y.terms.length yc] 30))
          clear hy hyv
          cases hn : y.neg
          · rw [hn] at e0 HB4
            have HJ4 := Lib.hid (show ∀ a ∈ x.body.take (j + 1), a.neg = false from fun a ha => by
              rw [HTJ.out] at ha
              rcases List.mem_append.1 ha with ha | ha
              · exact HJ.out a ha
              · obtain rfl := List.mem_singleton.1 ha
                exact hn)
            clear hn
            go_wp2
            go_roundw
            case rel => exact ⟨j + 1, by omega, by go_num, HB4, HJ4⟩
            case measure => simp [intOf]; omega
          · rw [hn] at e0 HB4
            clear hn
            go_wp2
            go_ret
            exact ⟨rfl, HB4.out⟩
        · have HN4 := Lib.hid (show ∀ r ∈ p.take (k + 1), ∀ a ∈ r.body, a.neg = false from fun r hr a ha => by
            rw [HTK.out] at hr
            rcases List.mem_append.1 hr with hr | hr
            · exact HN.out r hr a ha
            · obtain rfl := List.mem_singleton.1 hr
              refine HJ.out a ?_
              rwa [List.take_of_length_le (by omega)])
          go_wp2
          go_roundw
          case rel => exact ⟨k + 1, by omega, by go_num, HB, HN4⟩
          case measure => simp [intOf]; omega
    · have HK := Lib.hid (show StrataIs (p.take m) (List.replicate m 0) (0, 0) from by
        have := plain_strata HZ.out (by have := HN.out; rwa [List.take_of_length_le (by omega)] at this) m
        rwa [List.length_take, Nat.min_eq_left hml] at this)
      have hlen : (List.replicate m (0 : Int)).length = m := List.length_replicate
      have hmc : m ≤ c := by omega
      have KS := Lib.hid (strataKnown hlen HK.out ((H.out.up HB.out).take hml) (by rw [List.length_take]; omega) (fun r hr => N2.out r (List.mem_of_mem_take hr)) (fun r hr => N3.out r (List.mem_of_mem_take hr)))
      clear HN HK
      go_wp2_with (go_at_call 16; refine (KS.out).mono ?_; rintro e w3 ⟨⟨la, lc, rfl, hl⟩, hb3⟩; have HB3 := Lib.hid (HB.out.trans (hb3.mono HB.out.size)); have HL := Lib.hid hl; clear hl hb3)
      have HB4 := Lib.hid (HB3.out.alloc HB3.out.size (.cells #[.int .i64 0, .int .i64 0] 26))
      have HF4 := Lib.hid (Blk.new w3 26 #[.int .i64 0, .int .i64 0])
      have HL4 := Lib.hid (HL.out.agree RInt.steady ((Agree.refl _ _).alloc (.cells #[.int .i64 0, .int .i64 0] 26)))
      have hm1 : m ≤ 1048576 := by omega
      go_loopw [55] (fun i wr => ∃ j : Nat, j ≤ m ∧ i = .int .i64 j ∧ wr = w3.alloc (.cells #[.int .i64 0, .int .i64 0] 26)) (fun i _ => m - (intOf i).toNat)
      case atStart => exact ⟨0, Nat.zero_le _, rfl, by first | rfl | trivial⟩
      case round =>
        obtain ⟨j, hj, rfl, rfl⟩ := hrel
        by_cases hlj : j < m
        · obtain ⟨b5, o5, rfl, -, -, l5⟩ := RdInts.at HL4.out (show (List.replicate m (0 : Int))[j]? = some 0 by rw [List.getElem?_replicate, if_pos hlj])
          go_wp2
          go_roundw
          case rel => exact ⟨j + 1, by omega, by go_num, by first | rfl | trivial⟩
          case measure => simp [intOf]; omega
        · have c0 := HF4.out.cell 0
          simp only [List.getElem?_toArray, List.getElem?_cons_zero] at c0
          go_wp2
          go_ret
          exact ⟨rfl, HB4.out⟩
namespace checkPlain
theorem own : ownKnob Try.prog.godebug = none := by kernel_rfl

set_option maxRecDepth 100000 in
theorem contract (H : Type) (enc : TypeId × Value → H) (W : World) (base : Nat) (args : Array Value) (ds gs : List (DataW H)) (before : List MemPlace)
    (hval : ∀ (j : Nat) t v, Try.f8.params[j]? = some t → args[j]? = some v → Value.okWide Try.prog W .any base t v)
    (hW : DataW.Whole enc Try.prog Try.f8.params.toList Rows.checkPlainSpec.vars false W args.toList ds gs before) (hk : Rows.uptoSmall H (ds ++ gs) = true) :
    Calls Try.prog 8 args W fun e W' => ∃ v, e = .returned v ∧ Rows.checkPlainSpec.post enc Try.prog Try.f8 false true false false W args v W' := by
  have hW' := hW
  obtain ⟨p, q, hA0, hV, rfl, hfz, hnd⟩ := hW
  have hA : DataW.TrodAll enc Try.prog W 0 (fun _ => true) true Try.f8.params.toList args.toList ds p := hA0
  rw [Try.params8] at hA hval
  obtain ⟨v0, v1, d0, d1, p0, p1, rfl, rfl, rfl, h0, h1⟩ := trodAll_two hA
  obtain ⟨rfl, rfl⟩ := trodVars_none hV
  obtain ⟨x0, r0, s0⟩ := openRule.sliceArg Try.underlying23 (hval 0 23 v0 rfl rfl) h0
  obtain ⟨x1, rfl, s1⟩ := openInt.intArg Try.underlying3 (hval 1 3 v1 rfl rfl) h1
  rw [List.append_nil] at hk
  have hb : Rows.uptoBulkAll [d0, d1] ≤ 1048576 := of_decide_eq_true hk
  simp only [Rows.uptoBulkAll] at hb
  obtain ⟨l0, m0, k0⟩ := rules_small (p := x0) (by omega)
  refine (checkPlainCalls x0 v0 x1 W r0 l0 m0 k0).mono fun e W' ⟨he, hb'⟩ => ?_
  subst he
  exact ⟨_, rfl, law_post (tb := 4) hW' rfl rfl (by kernel_rfl) Try.underlying4 (by kernel_rfl) (by kernel_rfl) hb'⟩

set_option maxRecDepth 100000 in
theorem lifted (os : Os) (started : os.Started) (H : Type) (enc : TypeId × Value → H) (F : Stop.Interp) :
    ReturnsInHanded {} Try.checked os 8 .any ((Rows.OpenSpec.upto Rows.checkPlainSpec).pre6 enc Try.prog Try.f8 Rows.checkPlainUptoRow.domain false) (((Rows.OpenSpec.upto Rows.checkPlainSpec).at F).post enc Try.prog Try.f8 false true false false) := by
  refine returnsInHanded_of_cond (C := Try.checked) (s := Rows.OpenSpec.upto Rows.checkPlainSpec) (k := Rows.uptoSmall) rfl own started (by kernel_rfl) Try.func8
    (OpenSpec.witness (enc := enc) (C := Try.checked) (s := Rows.OpenSpec.upto Rows.checkPlainSpec) (k := Rows.uptoSmall) rfl false ⟨#[], #[.slice none 0 0, .int .i64 0], []⟩ 8 (by kernel_rfl) (by kernel_rfl) (by kernel_rfl)
      (x := ([.nil, .lit (.int .i64 0)], [], [])) (by kernel_rfl) rfl (by kernel_rfl)) ?_
  intro W base args ds gs before hval hW _ hk _
  exact contract H enc W base args ds gs before hval hW hk

theorem proved : Rows.CheckPlainUptoSaid :=
  OpenClaim.holds_of_cond 8 Try.f8 rfl rfl rfl rfl rfl rfl rfl ⟨rfl, rfl, rfl, rfl, rfl⟩ rfl rfl rfl rfl rfl (by kernel_rfl) Try.func8 (by kernel_rfl)
    (of_decide_eq_true (by kernel_rfl)) (by unfold Func.isWrapper; first | (rw [if_pos (by decide +kernel)]; kernel_rfl) | (rw [if_neg (by decide +kernel)]; exact ⟨rfl, rfl⟩))
    (fun os started H enc _ F => lifted os started H enc F)
end checkPlain

end Go.Proofs.Ytobbjapmdpkogaa
