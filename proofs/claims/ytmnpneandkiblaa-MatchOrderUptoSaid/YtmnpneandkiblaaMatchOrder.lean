/-
  corolaw4.MatchOrder ALWAYS ANSWERS TRUE: a body's atoms, turned around, are so of the same. For any arguments of ordinary size; without conditions.
-/
import Derived.Test.YtmnpneandkiblaaAtomsIn
import Derived.Test.YtmnpneandkiblaaAlive4
import Derived.Test.YtmnpneandkiblaaRefB
import Derived.Test.YtmnpneandkiblaaAllS
import Derived.Test.YtmnpneandkiblaaChecked
namespace Go.Proofs.Ytmnpneandkiblaa
open Go.RowKit Go.ChangeShapes Go.WideShapes Go.Deep

theorem rowAtoms4 : RowT Try.prog 22 38 3 := RowT.mk' (b := 48) (z := .agg #[.bool false, .string ⟨#[]⟩, .slice none 0 0]) Try.underlying22 (by kernel_rfl) (by omega) rfl (by omega)
theorem rev_snoc {α : Type} {l : List α} {k : Nat} {x : α} (h : l[l.length - 1 - k]? = some x) (hk : k < l.length) : l.reverse.take (k + 1) = l.reverse.take k ++ [x] := by
  rw [List.take_add_one, List.getElem?_reverse hk, h]; rfl

attribute [local go_sem ↓] Go.wp_at_zero Go.wp_at_succ
set_option maxRecDepth 100000 in
set_option maxHeartbeats 8000000 in
theorem matchOrderCalls {S S2 : Nat → Prop} (bv : Value) (body : List PAtom) (fv : Value) (facts : List PFact) (w : World) (hb : RdAtoms S w bv body) (hf : RdFacts S2 w fv facts) (hs : BodySmall body) (n4 : facts.length ≤ 1048576) (n5 : ∀ x ∈ facts, x.args.length ≤ 1048576) :
    Calls Try.prog 6 #[bv, fv] w fun e w' => e = .returned (.bool true) ∧ Below w.heap.size w w' := by
  obtain ⟨ba, bc, rfl, -, -, -⟩ := id hb.form
  obtain ⟨fa, fc, rfl, -, -, -⟩ := id hf.form
  have HBD := Lib.hid (hb.more RAtom.steady (S' := fun b => b < w.heap.size) (fun b _ h => h))
  have HFA := Lib.hid hf
  have N5 := Lib.hid n5
  have HSM := Lib.hid hs
  have n1 := hs.b0
  clear hb hf n5 hs
  have KA := Lib.hid (alive4Calls w)
  go_enter Try.func6, Try.ntmps6
  go_wp2_with (go_at_call 17; refine (KA.out).mono ?_; rintro e w1 ⟨rfl, hb1⟩; have HB1 := Lib.hid hb1; clear hb1)
  go_loopw [15, 5] (fun i v wr => ∃ k : Nat, k ≤ body.length ∧ i = .int .i64 k ∧ Hid (Below w.heap.size w wr) ∧ Hid (Owned 3 RAtom w.heap.size 38 (fun b => b < w.heap.size) wr v (body.reverse.take k))) (fun i _ _ => body.length - (intOf i).toNat)
  case atStart => exact ⟨0, Nat.zero_le _, rfl, HB1, Lib.hid (by rw [List.take_zero]; exact Owned.nil)⟩
  case round =>
    clear HB1
    obtain ⟨k, hk, rfl, HB, HO⟩ := hrel
    obtain ⟨va, vc, efm, -, -, -⟩ := (HO.out.read RAtom.steady).form
    subst efm
    have htl : (body.reverse.take k).length = k := by rw [List.length_take, List.length_reverse]; omega
    have HTL := Lib.hid htl
    clear htl
    by_cases hlt : k < body.length
    · obtain ⟨m, hm⟩ : ∃ m, body.length - 1 - k = m := ⟨_, rfl⟩
      obtain ⟨a, hx⟩ : ∃ a, body[m]? = some a := ⟨_, List.getElem?_eq_getElem (by omega)⟩
      obtain ⟨b1, o1, tv, rfl, hS, hb1, d00, d10, d20, htv⟩ := RdAtoms.at HBD.out hx
      have d0 := (cell_below HB.out hS _).trans d00
      have d1 := (cell_below HB.out hS _).trans d10
      have d2 := (cell_below HB.out hS _).trans d20
      obtain ⟨ta, tc, rfl, -, -, -⟩ := id htv.form
      have HRS := Lib.hid (rev_snoc (by rw [hm]; exact hx) hlt)
      have e1 : (body.length : Int) - 1 - (k : Int) = (m : Int) := by omega
      have i1 : (0 : Int) ≤ (m : Int) := by omega
      have i2 : (m : Int) < (body.length : Int) := by omega
      have i3 : IntKind.i64.wrap (m : Int) = m := by rw [IntKind.wrap_i64]; omega
      have HTV := Lib.hid htv
      have hlb : b1 < wr.heap.size := Nat.lt_of_lt_of_le hS (Below.size HB.out)
      clear hx hm htv d00 d10 d20 hb1
      go_wp2_with (at_builtin; refine wpList_append_one (B := w.heap.size) (e := 38) (S := fun q => q < w.heap.size) (by rfl) _ _ 22 (by rfl) RAtom.steady rowAtoms4 _ (body.reverse.take k) (by rfl) (HO.out.alloc RAtom.steady _) wr.heap.size 1 #[.bool a.neg, .string a.name, .slice ta a.terms.length tc] 38 (0, 0) a (by rfl) (heap_new_at rfl) rfl (by simp [Value.oneCell']) ⟨_, rfl, (HTV.out.more RTerm.steady (fun q hq _ => ⟨hq, fun e => by have := (HO.out.row_lt e.symm).1; omega⟩)).agree RTerm.steady ⟨Nat.le_trans (Below.size HB.out) (by simp), fun q hq _ => ((HB.out.alloc (Below.size HB.out) _).block q hq.1)⟩⟩ (by have := HTL.out; omega) (by have := Below.size HB.out; simp; omega) ?_; intro v2 w2 hown2 hg2 hat2; have HO2 := Lib.hid (show Owned 3 RAtom w.heap.size 38 (fun b => b < w.heap.size) w2 v2 (body.reverse.take (k + 1)) by rw [HRS.out]; exact hown2); have HB2 := Lib.hid ((HB.out.alloc (Below.size HB.out) _).grown hg2 (by have := Below.size HB.out; simp; omega) (fun q hq => (HO.out.row_lt hq).1)); clear hown2 hg2 hat2)
      go_roundw
      case rel => exact ⟨k + 1, by omega, by go_num, HB2, HO2⟩
      case measure => simp [intOf]; omega
    · have HRV := Lib.hid (show RdAtoms (fun _ => True) wr (.slice va (body.reverse.take k).length vc) body.reverse by
        have h := (HO.out.read RAtom.steady).more RAtom.steady (S' := fun _ => True) (fun _ _ _ => trivial)
        have e : body.reverse.take k = body.reverse := List.take_of_length_le (by rw [List.length_reverse]; omega)
        rw [e] at h ⊢
        exact h)
      generalize (body.reverse.take k).length = rl at *
      have hrl := HRV.out.form
      have K1 := Lib.hid (fun W (hW : Below w.heap.size w W) => allReads (.slice ba body.length bc) body (.slice fa facts.length fc) facts W (RdAtoms.up HBD.out hW) (HFA.out.up hW) n1 HSM.out.b1 HSM.out.b2 n4 N5.out)
      have K2 := Lib.hid (fun W (hW : Below w.heap.size w W) v (hr : RdAtoms (fun _ => True) W v body.reverse) => allReads v body.reverse (.slice fa facts.length fc) facts W hr (HFA.out.up hW) (by rw [List.length_reverse]; exact n1) (fun a ha => HSM.out.b1 a (List.mem_reverse.1 ha)) (fun a ha => HSM.out.b2 a (List.mem_reverse.1 ha)) n4 N5.out)
      have HSA := Lib.hid (all_short body facts)
      have HEQ := Lib.hid (all_turned body facts)
      clear hrl
      generalize (allP body facts) = r1 at *
      generalize (allP body.reverse facts) = r2 at *
      obtain ⟨l1, q1⟩ := r1
      obtain ⟨l2, q2⟩ := r2
      have T1 := Lib.hid True.intro
      dsimp only at *
      by_cases h1 : q1 = 0
      · subst h1
        by_cases h2 : q2 = 0
        · subst h2
          obtain rfl : l1 = l2 := HEQ.out rfl rfl
          go_wp2_with (first
            | (go_at_call 10; clear T1; refine (K1.out _ HB.out).mono ?_; rintro e w2 ⟨⟨a2, c2, rfl, hr2⟩, hb2⟩; have HR2 := Lib.hid hr2; have HB2 := Lib.hid (HB.out.trans (hb2.mono (Below.size HB.out))); have HRV2 := Lib.hid (RdAtoms.up HRV.out hb2); clear hr2 hb2)
            | (go_at_call 10; refine (K2.out _ HB2.out _ HRV2.out).mono ?_; rintro e w3 ⟨⟨a3, c3, rfl, hr3⟩, hb3⟩; have HR3 := Lib.hid hr3; have HR23 := Lib.hid (RdBindss.up HR2.out hb3); have HB3 := Lib.hid (HB2.out.trans (hb3.mono (Below.size HB2.out))); clear hr3 hb3)
            | (go_at_call 9; refine (sameBindsRef _ _ l1 _ HR23.out HR3.out (by have h : l1.length ≤ 20000 := HSA.out.1; omega) (fun x hx => by have h : x.length ≤ 20 := HSA.out.2 x hx; omega)).mono ?_; rintro e w4 ⟨rfl, hf4⟩; have HB4 := Lib.hid (HB3.out.trans (hf4.below.mono (Below.size HB3.out))); clear hf4))
          go_ret
          exact ⟨rfl, HB4.out⟩
        · have g2 : (q2 != 0) = true := by simpa using h2
          clear h2
          go_wp2_with (first
            | (go_at_call 10; clear T1; refine (K1.out _ HB.out).mono ?_; rintro e w2 ⟨⟨a2, c2, rfl, hr2⟩, hb2⟩; have HB2 := Lib.hid (HB.out.trans (hb2.mono (Below.size HB.out))); have HRV2 := Lib.hid (RdAtoms.up HRV.out hb2); clear hr2 hb2)
            | (go_at_call 10; refine (K2.out _ HB2.out _ HRV2.out).mono ?_; rintro e w3 ⟨⟨a3, c3, rfl, hr3⟩, hb3⟩; have HB3 := Lib.hid (HB2.out.trans (hb3.mono (Below.size HB2.out))); clear hr3 hb3))
          go_ret
          exact ⟨rfl, HB3.out⟩
      · have g1 : (q1 != 0) = true := by simpa using h1
        clear h1
        go_wp2_with (first
          | (go_at_call 10; clear T1; refine (K1.out _ HB.out).mono ?_; rintro e w2 ⟨⟨a2, c2, rfl, hr2⟩, hb2⟩; have HB2 := Lib.hid (HB.out.trans (hb2.mono (Below.size HB.out))); have HRV2 := Lib.hid (RdAtoms.up HRV.out hb2); clear hr2 hb2)
          | (go_at_call 10; refine (K2.out _ HB2.out _ HRV2.out).mono ?_; rintro e w3 ⟨⟨a3, c3, rfl, hr3⟩, hb3⟩; have HB3 := Lib.hid (HB2.out.trans (hb3.mono (Below.size HB2.out))); clear hr3 hb3))
        go_ret
        exact ⟨rfl, HB3.out⟩
namespace matchOrder
theorem own : ownKnob Try.prog.godebug = none := by kernel_rfl

set_option maxRecDepth 100000 in
theorem contract (H : Type) (enc : TypeId × Value → H) (W : World) (base : Nat) (args : Array Value) (ds gs : List (DataW H)) (before : List MemPlace)
    (hval : ∀ (j : Nat) t v, Try.f6.params[j]? = some t → args[j]? = some v → Value.okWide Try.prog W .any base t v)
    (hW : DataW.Whole enc Try.prog Try.f6.params.toList Rows.matchOrderSpec.vars false W args.toList ds gs before) (hk : Rows.uptoSmall H (ds ++ gs) = true) :
    Calls Try.prog 6 args W fun e W' => ∃ v, e = .returned v ∧ Rows.matchOrderSpec.post enc Try.prog Try.f6 false true false false W args v W' := by
  have hW' := hW
  obtain ⟨p, q, hA0, hV, rfl, hfz, hnd⟩ := hW
  have hA : DataW.TrodAll enc Try.prog W 0 (fun _ => true) true Try.f6.params.toList args.toList ds p := hA0
  rw [Try.params6] at hA hval
  obtain ⟨v0, v1, d0, d1, p0, p1, rfl, rfl, rfl, h0, h1⟩ := trodAll_two hA
  obtain ⟨rfl, rfl⟩ := trodVars_none hV
  obtain ⟨x0, r0, s0⟩ := openAtom.sliceArg Try.underlying22 (hval 0 22 v0 rfl rfl) h0
  obtain ⟨x1, r1, s1⟩ := openFact.sliceArg Try.underlying23 (hval 1 23 v1 rfl rfl) h1
  rw [List.append_nil] at hk
  have hb : Rows.uptoBulkAll [d0, d1] ≤ 1048576 := of_decide_eq_true hk
  simp only [Rows.uptoBulkAll] at hb
  have l0 := body_small (l := x0) (by omega)
  have l1 := sizeL_le openFact.one x1
  have m1 : ∀ z ∈ x1, z.args.length ≤ 1048576 := fun z hz => by have h1 := sizeL_mem (size := sizeFact) hz; have h2 := sizeL_le openStr.one z.args; simp only [sizeFact] at h1; omega
  refine (matchOrderCalls v0 x0 v1 x1 W r0 r1 l0 (by omega) m1).mono fun e W' ⟨he, hb'⟩ => ?_
  subst he
  exact ⟨_, rfl, law_post (tb := 4) hW' rfl rfl (by kernel_rfl) Try.underlying4 (by kernel_rfl) (by kernel_rfl) hb'⟩

set_option maxRecDepth 100000 in
theorem lifted (os : Os) (started : os.Started) (H : Type) (enc : TypeId × Value → H) (F : Stop.Interp) :
    ReturnsInHanded {} Try.checked os 6 .any ((Rows.OpenSpec.upto Rows.matchOrderSpec).pre6 enc Try.prog Try.f6 Rows.matchOrderUptoRow.domain false) (((Rows.OpenSpec.upto Rows.matchOrderSpec).at F).post enc Try.prog Try.f6 false true false false) := by
  refine returnsInHanded_of_cond (C := Try.checked) (s := Rows.OpenSpec.upto Rows.matchOrderSpec) (k := Rows.uptoSmall) rfl own started (by kernel_rfl) Try.func6
    (OpenSpec.witness (enc := enc) (C := Try.checked) (s := Rows.OpenSpec.upto Rows.matchOrderSpec) (k := Rows.uptoSmall) rfl false ⟨#[], #[.slice none 0 0, .slice none 0 0], []⟩ 8 (by kernel_rfl) (by kernel_rfl) (by kernel_rfl)
      (x := ([.nil, .nil], [], [])) (by kernel_rfl) rfl (by kernel_rfl)) ?_
  intro W base args ds gs before hval hW _ hk _
  exact contract H enc W base args ds gs before hval hW hk

theorem proved : Rows.MatchOrderUptoSaid :=
  OpenClaim.holds_of_cond 6 Try.f6 rfl rfl rfl rfl rfl rfl rfl ⟨rfl, rfl, rfl, rfl, rfl⟩ rfl rfl rfl rfl rfl (by kernel_rfl) Try.func6 (by kernel_rfl)
    (of_decide_eq_true (by kernel_rfl)) (by unfold Func.isWrapper; first | (rw [if_pos (by decide +kernel)]; kernel_rfl) | (rw [if_neg (by decide +kernel)]; exact ⟨rfl, rfl⟩))
    (fun os started H enc _ F => lifted os started H enc F)
end matchOrder


end Go.Proofs.Ytmnpneandkiblaa
