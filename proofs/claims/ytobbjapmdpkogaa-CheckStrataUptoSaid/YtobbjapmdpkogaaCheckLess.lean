/-
  CLAIM: CheckLess: of any program of bulk at most 1048576 the law answers true and leaves its argument as it was.
-/
import Derived.Test.YtobbjapmdpkogaaAlive3
import Derived.Test.YtobbjapmdpkogaaRulesIn
import Derived.Test.YtobbjapmdpkogaaRowCut
import Derived.Deep.QuietTactic
namespace Go.Proofs.Ytobbjapmdpkogaa
open Go.RowKit Go.ChangeShapes Go.WideShapes Go.ChangeAt

theorem strata_cases (p : List PRule) : (∃ x y, x ≠ 0 ∧ StrataIs p [] (x, y)) ∨ ((wrongP p).1 = 0 ∧ ∃ L, Least p L ∧ StrataIs p (p.map fun r => (L r.head.name : Int)) (0, 0)) := by
  by_cases hw : (wrongP p).1 = 0
  · by_cases hs : ∃ N, Sol p N
    · obtain ⟨N, hN⟩ := hs
      obtain ⟨L, hL⟩ := exists_least hN
      exact .inr ⟨hw, L, hL, .inr ⟨hw, .inl ⟨L, hL, rfl, rfl⟩⟩⟩
    · exact .inl ⟨10, 0, by decide, .inr ⟨hw, .inr ⟨fun N hN => hs ⟨N, hN⟩, rfl, rfl⟩⟩⟩
  · exact .inl ⟨(wrongP p).1, (wrongP p).2, hw, .inl ⟨hw, rfl, rfl⟩⟩

theorem Below.drewN {B : Nat} {a w : World} (h : Below B a w) (n : Nat) : Below B a (w.drewN n) := ⟨h.os, h.tape, h.output, h.size, h.block⟩
theorem Agree.drewN {S : Nat → Prop} {a w : World} (h : Agree S a w) (n : Nat) : Agree S a (w.drewN n) := h
attribute [local go_sem ↓] Go.wp_at_zero Go.wp_at_succ
set_option maxRecDepth 100000 in
set_option maxHeartbeats 8000000 in
theorem checkLessCalls (p : List PRule) (v : Value) (w : World) (h : RdRules (fun _ => True) w v p) (n1 : p.length ≤ 1048576) (n2 : ∀ r ∈ p, RuleSmall r) (n3 : ∀ r ∈ p, NameSmall r) :
    Calls Try.prog 9 #[v] w fun e w' => e = .returned (.bool true) ∧ Below w.heap.size w w' := by
  obtain ⟨a, c, rfl, hc1, hc2, hc3⟩ := id h.form
  have H := Lib.hid h
  have N2 := Lib.hid n2
  have N3 := Lib.hid n3
  clear h n2 n3
  rcases strata_cases p with ⟨x, y, hx, hs⟩ | ⟨hz, L, hL, hs⟩
  · have KS := Lib.hid (fun (W : World) (hW : Below w.heap.size w W) => strataKnown (n := 0) (by rfl) hs (H.out.up hW) n1 N2.out N3.out)
    have hne : (x != 0) = true := by simpa using hx
    clear hs hx
    go_enter Try.func9, Try.ntmps9
    go_wp2_with (first
      | (go_at_call 16; refine (KS.out _ HB1.out).mono ?_; rintro e w2 ⟨⟨la, lc, rfl, -⟩, hb2⟩; have HB2 := Lib.hid ((HB1.out.trans (hb2.mono HB1.out.size)).alloc (Nat.le_trans HB1.out.size hb2.size) (.cells #[.int .i64 x, .int .i64 y] 26)); clear hb2)
      | (go_at_call 31; refine (alive3Calls _).mono ?_; rintro e w1 ⟨rfl, hb1⟩; have HB1 := Lib.hid hb1; clear hb1))
    go_wp2
    go_ret
    exact ⟨rfl, HB2.out⟩
  obtain ⟨ls, HLS⟩ : ∃ ls, Hid ((p.map fun r => (L r.head.name : Int)) = ls) := ⟨_, Lib.hid rfl⟩
  rw [HLS.out] at hs
  have hll : ls.length = p.length := by rw [← HLS.out]; simp
  have KS := Lib.hid (fun (W : World) (hW : Below w.heap.size w W) => strataKnown hll hs (H.out.up hW) n1 N2.out N3.out)
  clear hs
  by_cases h0 : p.length = 0
  · have hz0 : ((p.length : Int) == 0) = true := by rw [h0]; rfl
    clear h0
    go_enter Try.func9, Try.ntmps9
    go_wp2_with (first
      | (go_at_call 16; refine (KS.out _ HB1.out).mono ?_; rintro e w2 ⟨⟨la, lc, rfl, -⟩, hb2⟩; have HB2 := Lib.hid ((HB1.out.trans (hb2.mono HB1.out.size)).alloc (Nat.le_trans HB1.out.size hb2.size) (.cells #[.int .i64 0, .int .i64 0] 26)); clear hb2)
      | (go_at_call 31; refine (alive3Calls _).mono ?_; rintro e w1 ⟨rfl, hb1⟩; have HB1 := Lib.hid hb1; clear hb1))
    go_wp2
    go_ret
    exact ⟨rfl, HB2.out⟩
  obtain ⟨n, hn⟩ : ∃ n, p.length = n + 1 := ⟨p.length - 1, by omega⟩
  have hz0 : ((p.length : Int) == 0) = false := beq_eq_false_iff_ne.2 (by omega)
  have hw0 : IntKind.i64.wrap ((p.length : Int) - 1) = (n : Int) := by rw [IntKind.wrap_i64]; omega
  have hnl : n ≤ p.length := by omega
  have hnc : n ≤ c := by omega
  obtain ⟨K, hK⟩ : ∃ K, Least (p.take n) K := exists_least (hL.sol.take n)
  have hKL := hL.take hK
  obtain ⟨ms, HMS⟩ : ∃ ms, Hid (((p.take n).map fun r => (K r.head.name : Int)) = ms) := ⟨_, Lib.hid rfl⟩
  have hml : ms.length = n := by rw [← HMS.out]; simp; omega
  have hs2 : StrataIs (p.take n) ms (0, 0) := .inr ⟨wrongP_take n hz, .inl ⟨K, hK, HMS.out.symm, rfl⟩⟩
  have KM := Lib.hid (fun (W : World) (hW : Below w.heap.size w W) => strataKnown hml hs2 ((H.out.up hW).take hnl) (by rw [List.length_take]; omega) (fun r hr => N2.out r (List.mem_of_mem_take hr)) (fun r hr => N3.out r (List.mem_of_mem_take hr)))
  have HLE := Lib.hid (show ∀ j, j < n → ∃ x y : Nat, ls[j]? = some (x : Int) ∧ ms[j]? = some (y : Int) ∧ y ≤ x from fun j hj => by
    obtain ⟨r, hr⟩ : ∃ r, p[j]? = some r := ⟨_, List.getElem?_eq_getElem (by omega)⟩
    refine ⟨L r.head.name, K r.head.name, ?_, ?_, hKL _⟩
    · rw [← HLS.out, List.getElem?_map, hr]; rfl
    · rw [← HMS.out, List.getElem?_map, List.getElem?_take_of_lt hj, hr]; rfl)
  clear hs2 hKL hK hL h0 hz hn
  have T1 := Lib.hid True.intro
  go_enter Try.func9, Try.ntmps9
  go_wp2_with (first
    | (go_at_call 16; have hb := HB2.out; clear hb; refine (KM.out _ HB2.out).mono ?_; rintro e w3 ⟨⟨ma, mc, rfl, hm⟩, hb3⟩; have HB3 := Lib.hid (HB2.out.trans (hb3.mono HB2.out.size)); have HF3 := Lib.hid (HF2.out.below hb3 HF2.out.lt); have HL3 := Lib.hid (HL2.out.agree RInt.steady (Below.agree hb3)); have HM3 := Lib.hid (hm.more (S' := fun b => b ≠ w2.heap.size) RInt.steady (fun b hb _ => by have h := hb; simp [New] at h; omega)); clear hm hb3 HB2 HF2 HL2; have c0 := HF3.out.cell 0; have c1 := HF3.out.cell 1; have f0 := HF3.out.frozen 0; have f1 := HF3.out.frozen 1; simp only [List.getElem?_toArray, List.getElem?_cons_zero, List.getElem?_cons_succ] at c0 c1)
    | (go_at_call 16; clear T1; refine (KS.out _ HB1.out).mono ?_; rintro e w2 ⟨⟨la, lc, rfl, hl⟩, hb2⟩; have HB2 := Lib.hid ((HB1.out.trans (hb2.mono HB1.out.size)).alloc (Nat.le_trans HB1.out.size hb2.size) (.cells #[.int .i64 0, .int .i64 0] 26)); have HF2 := Lib.hid (Blk.new w2 26 #[.int .i64 0, .int .i64 0]); have HL2 := Lib.hid ((hl.more (S' := fun b => b ≠ w2.heap.size) RInt.steady (fun _ _ hb => Nat.ne_of_lt hb)).agree RInt.steady ((Agree.refl (fun b => b ≠ w2.heap.size) _).alloc (.cells #[.int .i64 0, .int .i64 0] 26))); have HW2 := Lib.hid (show w.heap.size ≤ w2.heap.size from Nat.le_trans HB1.out.size hb2.size); clear hb2 hl HB1)
    | (go_at_call 31; refine (alive3Calls _).mono ?_; rintro e w1 ⟨rfl, hb1⟩; have HB1 := Lib.hid hb1; clear hb1))
  have HF4 := Lib.hid ((HF3.out.set_ 0 (.int .i64 0)).set_ 1 (.int .i64 0))
  have HB4 := Lib.hid ((HB3.out.setCell (p := ⟨w2.heap.size, 0, none⟩) HW2.out (.int .i64 0)).setCell (p := ⟨w2.heap.size, 1, none⟩) HW2.out (.int .i64 0))
  have hag : Agree (fun b => b ≠ w2.heap.size) w3 ((w3.setCell ⟨w2.heap.size, 0, none⟩ (.int .i64 0)).setCell ⟨w2.heap.size, 1, none⟩ (.int .i64 0)) := (Agree.setCell (p := ⟨w2.heap.size, 0, none⟩) (fun h => h rfl) _).trans (Agree.setCell (p := ⟨w2.heap.size, 1, none⟩) (fun h => h rfl) _)
  have HL4 := Lib.hid ((HL3.out.agree RInt.steady hag).more (S' := fun _ => True) RInt.steady (fun _ _ _ => trivial))
  have HM4 := Lib.hid ((HM3.out.agree RInt.steady hag).more (S' := fun _ => True) RInt.steady (fun _ _ _ => trivial))
  clear hag
  go_loopw [36] (fun i wr => ∃ j : Nat, j ≤ n ∧ i = .int .i64 j ∧ Hid (Below w.heap.size w wr) ∧ Hid (RdInts (fun _ => True) wr (.slice la p.length lc) ls) ∧ Hid (RdInts (fun _ => True) wr (.slice ma n mc) ms)) (fun i _ => n - (intOf i).toNat)
  case atStart => exact ⟨0, Nat.zero_le _, rfl, HB4, HL4, HM4⟩
  case round =>
    clear HF4 HB4 HF3 HB3 HL3 HM3 HL4 HM4
    obtain ⟨j, hj, rfl, HB, HL, HM⟩ := hrel
    by_cases hlj : j < n
    · obtain ⟨x, y, hx, hy, hle⟩ := HLE.out j hlj
      obtain ⟨b5, o5, rfl, -, -, l5⟩ := RdInts.at HL.out hx
      obtain ⟨b6, o6, rfl, -, -, l6⟩ := RdInts.at HM.out hy
      have hle' : ¬ ((x : Int) < (y : Int)) := by omega
      clear hx hy
      have hjp : j < p.length := by omega
      go_wp2_with fail
      go_quiet (fail)
      go_wp2
      go_roundw
      case rel => exact ⟨j + 1, by omega, by go_num, Lib.hid (Below.drewN HB.out _), Lib.hid (HL.out.agree RInt.steady (Agree.drewN (Agree.refl _ _) _)), Lib.hid (HM.out.agree RInt.steady (Agree.drewN (Agree.refl _ _) _))⟩
      case measure => simp [intOf]; omega
    · go_wp2
      go_ret
      exact ⟨rfl, HB.out⟩
namespace checkLess
theorem own : ownKnob Try.prog.godebug = none := by kernel_rfl

set_option maxRecDepth 100000 in
theorem contract (H : Type) (enc : TypeId × Value → H) (W : World) (base : Nat) (args : Array Value) (ds gs : List (DataW H)) (before : List MemPlace)
    (hval : ∀ (j : Nat) t v, Try.f9.params[j]? = some t → args[j]? = some v → Value.okWide Try.prog W .any base t v)
    (hW : DataW.Whole enc Try.prog Try.f9.params.toList Rows.checkLessSpec.vars false W args.toList ds gs before) (hk : Rows.uptoSmall H (ds ++ gs) = true) :
    Calls Try.prog 9 args W fun e W' => ∃ v, e = .returned v ∧ Rows.checkLessSpec.post enc Try.prog Try.f9 false true false false W args v W' := by
  have hW' := hW
  obtain ⟨p, q, hA0, hV, rfl, hfz, hnd⟩ := hW
  have hA : DataW.TrodAll enc Try.prog W 0 (fun _ => true) true Try.f9.params.toList args.toList ds p := hA0
  rw [Try.params9] at hA hval
  obtain ⟨v0, d0, rfl, rfl, h0⟩ := trodAll_one hA
  obtain ⟨rfl, rfl⟩ := trodVars_none hV
  obtain ⟨x0, r0, s0⟩ := openRule.sliceArg Try.underlying23 (hval 0 23 v0 rfl rfl) h0
  rw [List.append_nil] at hk
  have hb : Rows.uptoBulkAll [d0] ≤ 1048576 := of_decide_eq_true hk
  simp only [Rows.uptoBulkAll] at hb
  obtain ⟨l0, m0, k0⟩ := rules_small (p := x0) (by omega)
  refine (checkLessCalls x0 v0 W r0 l0 m0 k0).mono fun e W' ⟨he, hb'⟩ => ?_
  subst he
  exact ⟨_, rfl, law_post (tb := 4) hW' rfl rfl (by kernel_rfl) Try.underlying4 (by kernel_rfl) (by kernel_rfl) hb'⟩

set_option maxRecDepth 100000 in
theorem lifted (os : Os) (started : os.Started) (H : Type) (enc : TypeId × Value → H) (F : Stop.Interp) :
    ReturnsInHanded {} Try.checked os 9 .any ((Rows.OpenSpec.upto Rows.checkLessSpec).pre6 enc Try.prog Try.f9 Rows.checkLessUptoRow.domain false) (((Rows.OpenSpec.upto Rows.checkLessSpec).at F).post enc Try.prog Try.f9 false true false false) := by
  refine returnsInHanded_of_cond (C := Try.checked) (s := Rows.OpenSpec.upto Rows.checkLessSpec) (k := Rows.uptoSmall) rfl own started (by kernel_rfl) Try.func9
    (OpenSpec.witness (enc := enc) (C := Try.checked) (s := Rows.OpenSpec.upto Rows.checkLessSpec) (k := Rows.uptoSmall) rfl false ⟨#[], #[.slice none 0 0], []⟩ 8 (by kernel_rfl) (by kernel_rfl) (by kernel_rfl)
      (x := ([.nil], [], [])) (by kernel_rfl) rfl (by kernel_rfl)) ?_
  intro W base args ds gs before hval hW _ hk _
  exact contract H enc W base args ds gs before hval hW hk

theorem proved : Rows.CheckLessUptoSaid :=
  OpenClaim.holds_of_cond 9 Try.f9 rfl rfl rfl rfl rfl rfl rfl ⟨rfl, rfl, rfl, rfl, rfl⟩ rfl rfl rfl rfl rfl (by kernel_rfl) Try.func9 (by kernel_rfl)
    (of_decide_eq_true (by kernel_rfl)) (by unfold Func.isWrapper; first | (rw [if_pos (by decide +kernel)]; kernel_rfl) | (rw [if_neg (by decide +kernel)]; exact ⟨rfl, rfl⟩))
    (fun os started H enc _ F => lifted os started H enc F)
end checkLess

end Go.Proofs.Ytobbjapmdpkogaa
