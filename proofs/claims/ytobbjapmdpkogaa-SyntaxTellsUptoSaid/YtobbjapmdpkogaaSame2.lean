/-
  THE WALKS OF cororef1.SameAtom, SameAtoms, SameProgram, where both are the same: true.
-/
import Derived.Test.YtobbjapmdpkogaaCheckW3
import Derived.Deep.QuietTactic
import Derived.Laws.StructEq
namespace Go.Proofs.Ytobbjapmdpkogaa
open Go.RowKit

set_option maxRecDepth 100000 in
theorem neqTerm (x : Bool) (y : Str) (w : World) : (binOp .neq 65 (.agg #[.bool x, .string y]) (.agg #[.bool x, .string y])).run Try.prog w = .ok (.bool false) w := by
  have hp : Try.prog.stoodInHeld 65 = false := by kernel_rfl
  have hf : Try.prog.fieldsOf 65 = (match Try.prog.underlying 65 with | some (.struct fs) => fs | _ => #[]) := rfl
  rw [Try.underlying65] at hf
  have hu : Try.prog.underlying 65 = some (.struct (Try.prog.fieldsOf 65)) := by rw [hf]; exact Try.underlying65
  simp only [binOp]
  simp [Op.equal, Op.maxDepth, run_equalIn_struct w 9999 _ _ _ hu hp, hf, go_sem]

theorem sDrewB {B : Nat} {a w : World} (h : Below B a w) (n : Nat) : Below B a (w.drewN n) := ⟨h.os, h.tape, h.output, h.size, h.block⟩
theorem RdTerms.above {S : Nat → Prop} {w w' : World} {v : Value} {l : List PTerm} {B : Nat} (h : RdTerms S w v l) (hB : w.heap.size = B) (hb : Below B w w') : RdTerms (fun _ => True) w' v l := by subst hB; exact h.up hb

set_option maxRecDepth 100000 in
set_option maxHeartbeats 4000000 in
theorem sameAtomRef {S T : Nat → Prop} (x : PAtom) (tv uv : Value) (w : World) (ha : RdTerms S w tv x.terms) (hb : RdTerms T w uv x.terms) (n1 : x.terms.length ≤ 1073741824) :
    Calls Try.prog 50 #[.agg #[.bool x.neg, .string x.name, tv], .agg #[.bool x.neg, .string x.name, uv]] w fun e w' => e = .returned (.bool true) ∧ Below w.heap.size w w' := by
  obtain ⟨a, c, rfl, -, -, -⟩ := id ha.form
  obtain ⟨b, d, rfl, -, -, -⟩ := id hb.form
  have HA := Lib.hid ha
  have HB := Lib.hid hb
  have hne := @neqTerm
  have HW0 := Lib.hid (((Below.refl w.heap.size w).alloc (Nat.le_refl _) (.cells #[.bool x.neg, .string x.name, .slice a x.terms.length c] 30)).alloc (by simp) (.cells #[.bool x.neg, .string x.name, .slice b x.terms.length d] 30))
  have HX0 := Lib.hid ((Blk.new w 30 #[.bool x.neg, .string x.name, .slice a x.terms.length c]).alloc (.cells #[.bool x.neg, .string x.name, .slice b x.terms.length d] 30))
  have HY0 := Lib.hid (show Blk ((w.alloc (.cells #[.bool x.neg, .string x.name, .slice a x.terms.length c] 30)).alloc (.cells #[.bool x.neg, .string x.name, .slice b x.terms.length d] 30)) (w.heap.size + 1) 30 #[.bool x.neg, .string x.name, .slice b x.terms.length d] from heap_new_at (by simp))
  have x0 := HX0.out.cell 0; have x1 := HX0.out.cell 1; have x2 := HX0.out.cell 2
  have y0 := HY0.out.cell 0; have y1 := HY0.out.cell 1; have y2 := HY0.out.cell 2
  simp only [List.getElem?_toArray, List.getElem?_cons_zero, List.getElem?_cons_succ] at x0 x1 x2 y0 y1 y2
  clear ha hb
  obtain ⟨neg, name, terms⟩ := x
  dsimp only at *
  cases neg
  all_goals
    go_enter Try.func50, Try.ntmps50
    go_wp2
    clear x0 x1 x2 y0 y1 y2
    go_loopw [30] (fun i wr => ∃ k : Nat, k ≤ terms.length ∧ i = .int .i64 k ∧ Hid (Below w.heap.size w wr) ∧ Hid (Blk wr w.heap.size 30 #[.bool _, .string name, .slice a terms.length c]) ∧ Hid (Blk wr (w.heap.size + 1) 30 #[.bool _, .string name, .slice b terms.length d])) (fun i _ => terms.length - (intOf i).toNat)
    case atStart => exact ⟨0, Nat.zero_le _, rfl, HW0, HX0, HY0⟩
    case round =>
      clear HW0 HX0 HY0
      obtain ⟨k, hk, rfl, HW, HX, HY⟩ := hrel
      by_cases hlt : k < terms.length
      · obtain ⟨t, ht⟩ : ∃ t, terms[k]? = some t := ⟨_, List.getElem?_eq_getElem hlt⟩
        obtain ⟨b1, o1, rfl, -, -, d0, d1⟩ := RdTerms.at (HA.out.up HW.out) ht
        obtain ⟨b2, o2, rfl, -, -, e0, e1⟩ := RdTerms.at (HB.out.up HW.out) ht
        have x2 := HX.out.cell 2
        have y2 := HY.out.cell 2
        simp only [List.getElem?_toArray, List.getElem?_cons_zero, List.getElem?_cons_succ] at x2 y2
        clear ht
        go_wp2_with fail
        go_quiet (fail)
        go_wp2
        go_roundw
        case rel => exact ⟨k + 1, by omega, by go_num, Lib.hid (sDrewB HW.out _), Lib.hid (HX.out.drewN _), Lib.hid (HY.out.drewN _)⟩
        case measure => simp [intOf]; omega
      · go_wp2
        go_ret
        exact ⟨rfl, HW.out⟩

set_option maxRecDepth 100000 in
set_option maxHeartbeats 4000000 in
theorem sameAtomsRef {S T : Nat → Prop} (l : List PAtom) (va vb : Value) (w : World) (ha : RdAtoms S w va l) (hb : RdAtoms T w vb l) (n1 : l.length ≤ 1073741824) (n2 : ∀ x ∈ l, x.terms.length ≤ 1073741824) :
    Calls Try.prog 27 #[va, vb] w fun e w' => e = .returned (.bool true) ∧ Below w.heap.size w w' := by
  obtain ⟨a, c, rfl, -, -, -⟩ := id ha.form
  obtain ⟨b, d, rfl, -, -, -⟩ := id hb.form
  have HA := Lib.hid ha
  have HB := Lib.hid hb
  have N2 := Lib.hid n2
  clear ha hb n2
  go_enter Try.func27, Try.ntmps27
  go_wp2
  go_loopw [13] (fun i wr => ∃ k : Nat, k ≤ l.length ∧ i = .int .i64 k ∧ Hid (Below w.heap.size w wr)) (fun i _ => l.length - (intOf i).toNat)
  case atStart => exact ⟨0, Nat.zero_le _, rfl, Lib.hid (Below.refl _ _)⟩
  case round =>
    obtain ⟨k, hk, rfl, HW⟩ := hrel
    by_cases hlt : k < l.length
    · obtain ⟨x, hx⟩ : ∃ x, l[k]? = some x := ⟨_, List.getElem?_eq_getElem hlt⟩
      have nx := N2.out x (List.mem_of_getElem? hx)
      obtain ⟨b1, o1, tv, rfl, -, hb1, d0, d1, d2, htv⟩ := RdAtoms.at (HA.out.up HW.out) hx
      obtain ⟨b2, o2, uv, rfl, -, hb2, e0, e1, e2, huv⟩ := RdAtoms.at (HB.out.up HW.out) hx
      obtain ⟨ta, tc, rfl, -, -, -⟩ := id htv.form
      obtain ⟨ua, uc, rfl, -, -, -⟩ := id huv.form
      have K := Lib.hid (fun W (h : Below wr.heap.size wr W) => sameAtomRef x _ _ W (htv.up h) (huv.up h) nx)
      clear hx htv huv
      have i1 : (0 : Int) ≤ (k : Int) := by omega
      have i2 : (k : Int) < (l.length : Int) := by omega
      go_wp2_with fail
      go_region_held3 (fun w' => w'.cell? ⟨b1, o1 + k * 3, none⟩ = some (.bool x.neg) ∧ w'.cell? ⟨b1, o1 + k * 3 + 1, none⟩ = some (.string x.name) ∧ w'.cell? ⟨b1, o1 + k * 3 + 2, none⟩ = some (.slice ta x.terms.length tc) ∧
          w'.cell? ⟨b2, o2 + k * 3, none⟩ = some (.bool x.neg) ∧ w'.cell? ⟨b2, o2 + k * 3 + 1, none⟩ = some (.string x.name) ∧ w'.cell? ⟨b2, o2 + k * 3 + 2, none⟩ = some (.slice ua x.terms.length uc))
        (first | (refine ⟨?_, ?_, ?_, ?_, ?_, ?_⟩ <;> (first | (rw [hk2 _ hb1]; assumption) | (rw [hk2 _ hb2]; assumption))) | go_keep)
        (first
          | (go_at_call 50; refine (K.out _ (Below.refl _ _).drew).mono ?_; rintro e w1 ⟨rfl, hf1⟩; have hk2 : ∀ c, c < wr.heap.size → ∀ off, w1.cell? ⟨c, off, none⟩ = wr.cell? ⟨c, off, none⟩ := fun c hc off => cell_below (w := wr.drew) hf1 hc off))
      have HW2 := Lib.hid (HW.out.drew.trans (hf1.mono HW.out.size))
      clear hf1 hk2 d0 d1 d2 e0 e1 e2
      go_wp2
      go_roundw
      case rel => exact ⟨k + 1, by omega, by go_num, HW2⟩
      case measure => simp [intOf]; omega
    · go_wp2
      go_ret
      exact ⟨rfl, HW.out⟩

set_option maxRecDepth 100000 in
set_option maxHeartbeats 8000000 in
theorem sameProgramRef {S T : Nat → Prop} (l : List PRule) (va vb : Value) (w : World) (ha : RdRules S w va l) (hb : RdRules T w vb l) (n1 : l.length ≤ 1073741824) (n2 : ∀ r ∈ l, RuleSmall r) :
    Calls Try.prog 20 #[va, vb] w fun e w' => e = .returned (.bool true) ∧ Below w.heap.size w w' := by
  obtain ⟨a, c, rfl, -, -, -⟩ := id ha.form
  obtain ⟨b, d, rfl, -, -, -⟩ := id hb.form
  have HA := Lib.hid ha
  have HB := Lib.hid hb
  have N2 := Lib.hid n2
  clear ha hb n2
  go_enter Try.func20, Try.ntmps20
  go_wp2
  go_loopw [13] (fun i wr => ∃ k : Nat, k ≤ l.length ∧ i = .int .i64 k ∧ Hid (Below w.heap.size w wr)) (fun i _ => l.length - (intOf i).toNat)
  case atStart => exact ⟨0, Nat.zero_le _, rfl, Lib.hid (Below.refl _ _)⟩
  case round =>
    obtain ⟨k, hk, rfl, HW⟩ := hrel
    by_cases hlt : k < l.length
    · obtain ⟨x, hx⟩ : ∃ x, l[k]? = some x := ⟨_, List.getElem?_eq_getElem hlt⟩
      have hs := N2.out x (List.mem_of_getElem? hx)
      obtain ⟨b1, o1, tv, bv, rfl, -, hb1, d0, d1, d2, d3, htv, hbv⟩ := RdRules.at (HA.out.up HW.out) hx
      obtain ⟨b2, o2, uv, cv, rfl, -, hb2, e0, e1, e2, e3, huv, hcv⟩ := RdRules.at (HB.out.up HW.out) hx
      obtain ⟨ta, tc, rfl, -, -, -⟩ := id htv.form
      obtain ⟨ua, uc, rfl, -, -, -⟩ := id huv.form
      obtain ⟨ba, bc, rfl, -, -, -⟩ := id hbv.form
      obtain ⟨ca, cc, rfl, -, -, -⟩ := id hcv.form
      have K1 := Lib.hid (fun W (h : Below wr.heap.size wr W) => sameAtomRef x.head _ _ W (htv.up h) (huv.up h) (by have := hs.h1; omega))
      have K2 := Lib.hid (fun W (h : Below wr.heap.size wr W) => sameAtomsRef x.body _ _ W (hbv.up h) (hcv.up h) (by have := hs.b0; omega) (fun y hy => by have := hs.b1 y hy; omega))
      clear hx htv huv hbv hcv hs
      have i1 : (0 : Int) ≤ (k : Int) := by omega
      have i2 : (k : Int) < (l.length : Int) := by omega
      go_wp2_with fail
      go_region_held3 (fun w' => w'.cell? ⟨b1, o1 + k * 4, none⟩ = some (.bool x.head.neg) ∧ w'.cell? ⟨b1, o1 + k * 4 + 1, none⟩ = some (.string x.head.name) ∧ w'.cell? ⟨b1, o1 + k * 4 + 2, none⟩ = some (.slice ta x.head.terms.length tc) ∧ w'.cell? ⟨b1, o1 + k * 4 + 3, none⟩ = some (.slice ba x.body.length bc) ∧
          w'.cell? ⟨b2, o2 + k * 4, none⟩ = some (.bool x.head.neg) ∧ w'.cell? ⟨b2, o2 + k * 4 + 1, none⟩ = some (.string x.head.name) ∧ w'.cell? ⟨b2, o2 + k * 4 + 2, none⟩ = some (.slice ua x.head.terms.length uc) ∧ w'.cell? ⟨b2, o2 + k * 4 + 3, none⟩ = some (.slice ca x.body.length cc))
        (first | (refine ⟨?_, ?_, ?_, ?_, ?_, ?_, ?_, ?_⟩ <;> (first | (rw [hk3 _ hb1]; assumption) | (rw [hk3 _ hb2]; assumption))) | (refine ⟨?_, ?_, ?_, ?_, ?_, ?_, ?_, ?_⟩ <;> (first | (rw [hk2 _ hb1]; assumption) | (rw [hk2 _ hb2]; assumption))) | go_keep)
        (first
          | (go_at_call 27; refine (K2.out _ HF1.out).mono ?_; rintro e w2 ⟨rfl, hf2⟩; have HF2 := Lib.hid (HF1.out.trans (hf2.mono HF1.out.size)); have hk3 : ∀ c, c < wr.heap.size → ∀ off, w2.cell? ⟨c, off, none⟩ = wr.cell? ⟨c, off, none⟩ := fun c hc off => cell_below HF2.out hc off)
          | (go_at_call 50; refine (K1.out _ (Below.refl _ _).drew).mono ?_; rintro e w1 ⟨rfl, hf1⟩; have HF1 := Lib.hid (show Below wr.heap.size wr w1 from (Below.refl _ _).drew.trans hf1); have hk2 : ∀ c, c < wr.heap.size → ∀ off, w1.cell? ⟨c, off, none⟩ = wr.cell? ⟨c, off, none⟩ := fun c hc off => cell_below (w := wr.drew) hf1 hc off))
      have HW2 := Lib.hid (HW.out.trans (HF2.out.mono HW.out.size))
      clear hk2 hk3 d0 d1 d2 d3 e0 e1 e2 e3 HF1 HF2
      go_wp2
      go_roundw
      case rel => exact ⟨k + 1, by omega, by go_num, HW2⟩
      case measure => simp [intOf]; omega
    · go_wp2
      go_ret
      exact ⟨rfl, HW.out⟩
end Go.Proofs.Ytobbjapmdpkogaa
