/-
  THE TEXTS RunK, Ref1Less, Ref1Same, RoundW6, Same2, SameD, one behind the other.
-/
import Derived.Test.YtiiicochdidolaaGreatPk3
import Derived.Test.YtiiicochdidolaaGreatPk6
import Derived.Test.YtiiicochdidolaaGreatPk7
import Derived.Test.YtiiicochdidolaaGreatPk30
import Derived.Test.YtiiicochdidolaaGreatPk33
import Derived.Deep.QuietTactic
import Derived.Laws.StructEq
namespace Go.Proofs.YtiiicochdidolaaGreat
open Go.RowKit
structure RunIn (w W : World) (b : Nat) (kv nv : Value) (r : PRun) : Prop where
  below : Below w.heap.size w W
  old : w.heap.size ≤ b
  blk : Blk W b 28 #[kv, nv, .int .i64 r.stratum, .int .i64 r.rounds, .bool r.done]
  rd : RunRd W r kv nv
theorem RunIn.next {w W W' : World} {b : Nat} {kv nv : Value} {r : PRun} (h : RunIn w W b kv nv r) (hb : Below W.heap.size W W') : RunIn w W' b kv nv r :=
  ⟨h.below.trans (hb.mono (Below.size h.below)), h.old, h.blk.below hb h.blk.lt, h.rd.up hb⟩
theorem RunIn.alloc {w W : World} {b : Nat} {kv nv : Value} {r : PRun} (h : RunIn w W b kv nv r) (o : Obj) : RunIn w (W.alloc o) b kv nv r := h.next ((Below.refl _ _).alloc (Nat.le_refl _) o)
theorem RunIn.store {w W : World} {b : Nat} {kv nv ev mv : Value} {r x : PRun} {w0 : World} (h : RunIn w W b kv nv r) (hb : b < w0.heap.size) (hk : RdFacts (New w0) W ev x.known) (hn : RdFacts (New w0) W mv x.new) :
    RunIn w (((((W.setCell ⟨b, 0, none⟩ ev).setCell ⟨b, 1, none⟩ mv).setCell ⟨b, 2, none⟩ (.int .i64 x.stratum)).setCell ⟨b, 3, none⟩ (.int .i64 x.rounds)).setCell ⟨b, 4, none⟩ (.bool x.done)) b ev mv x := by
  have ho := h.old
  have hnw : ¬ New w0 b := fun h => by have h' : w0.heap.size ≤ b := h; omega
  exact ⟨((((h.below.setCell ho _).setCell ho _).setCell ho _).setCell ho _).setCell ho _, ho,
    ((((h.blk.set_ 0 _).set_ 1 _).set_ 2 _).set_ 3 _).set_ 4 _,
    ⟨(RdFacts.set_far (RdFacts.set_far (RdFacts.set_far (RdFacts.set_far (RdFacts.set_far hk hnw _) hnw _) hnw _) hnw _) hnw _).any, (RdFacts.set_far (RdFacts.set_far (RdFacts.set_far (RdFacts.set_far (RdFacts.set_far hn hnw _) hnw _) hnw _) hnw _) hnw _).any⟩⟩
end Go.Proofs.YtiiicochdidolaaGreat
namespace Go.Proofs.YtiiicochdidolaaGreat
open Go.RowKit
theorem ltF_name {f g : PFact} (h : f.name ≠ g.name) : ltF f g = strLt f.name g.name := by
  have h0 : cmpStr f.name g.name ≠ 0 := fun e => h ((cmpStr3.zero _ _).1 e)
  have h1 : cmpFact f g = cmpStr f.name g.name := by simp [cmpFact, orInt, h0]
  rw [Bool.eq_iff_iff]
  simp only [ltF, h1, decide_eq_true_eq]
  exact cmpStr_lt _ _
theorem ltF_len {f g : PFact} (h : f.name = g.name) (k : f.args.length ≠ g.args.length) : ltF f g = decide (f.args.length < g.args.length) := by
  have h0 : cmpStr f.name g.name = 0 := (cmpStr3.zero _ _).2 h
  have h2 : cmpInt (f.args.length : Int) g.args.length ≠ 0 := fun e => k (by have := (cmpInt3.zero _ _).1 e; omega)
  have h1 : cmpFact f g = cmpInt f.args.length g.args.length := by simp [cmpFact, orInt, h0, h2]
  rw [Bool.eq_iff_iff]
  simp only [ltF, h1, decide_eq_true_eq, cmpInt]
  split
  · constructor <;> intro <;> omega
  · split <;> constructor <;> intro <;> omega
theorem ltF_args {f g : PFact} (h : f.name = g.name) (k : f.args.length = g.args.length) : ltF f g = decide (cmpStrs f.args g.args < 0) := by
  have h0 : cmpStr f.name g.name = 0 := (cmpStr3.zero _ _).2 h
  have h2 : cmpInt (f.args.length : Int) g.args.length = 0 := (cmpInt3.zero _ _).2 (by omega)
  have h1 : cmpFact f g = cmpStrs f.args g.args := by
    simp only [cmpFact, orInt, h0, h2]
    simp
    intro e; exact e.symm
  simp only [ltF, h1]
theorem cmpStrs_same {x y : Str} {a b : List Str} (h : x = y) : cmpStrs (x :: a) (y :: b) = cmpStrs a b := by
  have h0 : cmpStr x y = 0 := (cmpStr3.zero _ _).2 h
  simp [cmpStrs, h0]
theorem cmpStrs_other {x y : Str} {a b : List Str} (h : x ≠ y) : decide (cmpStrs (x :: a) (y :: b) < 0) = strLt x y := by
  have h0 : cmpStr x y ≠ 0 := fun e => h ((cmpStr3.zero _ _).1 e)
  rw [Bool.eq_iff_iff, decide_eq_true_eq]
  simp only [cmpStrs, if_pos h0]
  exact cmpStr_lt _ _
theorem fresh_drewN {w w' : World} (h : Fresh w w') (n : Nat) : Fresh w (w'.drewN n) := h.trans ⟨n, #[], by simp⟩
attribute [local go_sem ↓] Go.wp_at_zero Go.wp_at_succ
set_option maxRecDepth 100000 in
set_option maxHeartbeats 2000000 in
theorem lessRef {S T : Nat → Prop} (f g : PFact) (av bv : Value) (w : World) (ha : RdStrs S w av f.args) (hb : RdStrs T w bv g.args) (n1 : f.args.length ≤ 1073741824) :
    Calls Tryz.prog 106 #[.agg #[.string f.name, av], .agg #[.string g.name, bv]] w fun e w' => e = .returned (.bool (ltF f g)) ∧ Fresh w w' := by
  obtain ⟨aa, ac, rfl, -, -, -⟩ := id ha.form
  obtain ⟨ba, bc, rfl, -, -, -⟩ := id hb.form
  have HF := Lib.hid (((Fresh.refl w).alloc (.cells #[.string f.name, .slice aa f.args.length ac] 38)).alloc (.cells #[.string g.name, .slice ba g.args.length bc] 38))
  by_cases hn : f.name = g.name
  · have g1 : (f.name.toList == g.name.toList) = true := by rw [hn]; exact beq_self_eq_true _
    by_cases hl : f.args.length = g.args.length
    · have HL := Lib.hid (ltF_args hn hl)
      have HA := Lib.hid (fun W (h : Agree (fun _ => True) w W) i x (hx : f.args[i]? = some x) => RdStrs.at ((ha.more RStr.steady (S' := fun _ => True) (fun _ _ _ => trivial)).agree RStr.steady h) hx)
      have HB := Lib.hid (fun W (h : Agree (fun _ => True) w W) i x (hx : g.args[i]? = some x) => RdStrs.at ((hb.more RStr.steady (S' := fun _ => True) (fun _ _ _ => trivial)).agree RStr.steady h) hx)
      have HN := Lib.hid hl
      rw [← hl]
      rw [← hl] at HF
      clear hn ha hb hl
      have c0 : ((w.alloc (.cells #[.string f.name, .slice aa f.args.length ac] 38)).alloc (.cells #[.string g.name, .slice ba f.args.length bc] 38)).cell? ⟨w.heap.size, 1, none⟩ = some (.slice aa f.args.length ac) := by
        rw [World.cell?_of_block (Below.heap_alloc _ _ _ (show w.heap.size < _ by simp))]; simp
      have c1 : ((w.alloc (.cells #[.string f.name, .slice aa f.args.length ac] 38)).alloc (.cells #[.string g.name, .slice ba f.args.length bc] 38)).cell? ⟨w.heap.size + 1, 1, none⟩ = some (.slice ba f.args.length bc) := by
        have e : w.heap.size + 1 = (w.alloc (.cells #[.string f.name, .slice aa f.args.length ac] 38)).heap.size := by simp
        rw [e]; simp
      have hsz : w.heap.size + 1 < ((w.alloc (.cells #[.string f.name, .slice aa f.args.length ac] 38)).alloc (.cells #[.string g.name, .slice ba f.args.length bc] 38)).heap.size := by simp
      go_enter Tryz.func106, Tryz.ntmps106
      go_wp2
      generalize (w.alloc (.cells #[.string f.name, .slice aa f.args.length ac] 38)).alloc (.cells #[.string g.name, .slice ba f.args.length bc] 38) = w0 at *
      go_loopw [33] (fun i wr => ∃ k : Nat, k ≤ f.args.length ∧ i = .int .i64 k ∧ Hid (ltF f g = decide (cmpStrs (f.args.drop k) (g.args.drop k) < 0)) ∧ Hid (Fresh w0 wr)) (fun i _ => f.args.length - (intOf i).toNat)
      case atStart => exact ⟨0, Nat.zero_le _, rfl, HL, Fresh.refl _⟩
      case round =>
        obtain ⟨k, hk, rfl, HR, HW⟩ := hrel
        have d0 := (cell_below HW.out.below (show w.heap.size < _ by omega) 1).trans c0
        have d1 := (cell_below HW.out.below hsz 1).trans c1
        clear c0 c1
        by_cases hlt : k < f.args.length
        · obtain ⟨x, hx⟩ : ∃ x, f.args[k]? = some x := ⟨_, List.getElem?_eq_getElem hlt⟩
          obtain ⟨y, hy⟩ : ∃ y, g.args[k]? = some y := ⟨_, List.getElem?_eq_getElem (by rw [← HN.out]; exact hlt)⟩
          have hag : Agree (fun _ => True) w wr := Below.agree (HF.out.trans HW.out).below
          obtain ⟨b1, o1, rfl, -, -, hc1⟩ := HA.out wr hag k x hx
          obtain ⟨b2, o2, rfl, -, -, hc2⟩ := HB.out wr hag k y hy
          have HX := Lib.hid hx
          have HY := Lib.hid hy
          clear hx hy hag
          have i1 : (0 : Int) ≤ (k : Int) := by omega
          have i2 : (k : Int) < (f.args.length : Int) := by omega
          by_cases hxy : x = y
          · have gz : (x.toList == y.toList) = true := by rw [hxy]; exact beq_self_eq_true _
            have HXY := Lib.hid hxy
            clear hxy
            go_wp2_with fail
            go_quiet (fail)
            go_wp2
            go_roundw
            case rel =>
              refine ⟨k + 1, by omega, by go_num, ?_, ?_⟩
              · rw [HR.out, drop_cons HX.out, drop_cons HY.out, cmpStrs_same HXY.out]; exact Lib.hid rfl
              · exact Lib.hid (fresh_drewN HW.out _)
            case measure => simp [intOf]; omega
          · have gz : (x.toList == y.toList) = false := by rw [beq_toList]; exact decide_eq_false hxy
            have HXY := Lib.hid (show ltF f g = strLt x y by rw [HR.out, drop_cons HX.out, drop_cons HY.out]; exact cmpStrs_other hxy)
            clear hxy
            obtain ⟨s, hs⟩ : ∃ s, strLt x y = s := ⟨_, rfl⟩
            rw [hs] at HXY
            have gs : Op.bytesLess x.toList y.toList = s := hs
            clear hs
            go_wp2_with fail
            go_quiet (fail)
            go_wp2_with fail
            go_quiet (fail)
            go_wp2
            go_ret
            refine ⟨ret_bool HXY.out.symm, ?_⟩
            exact fresh_drewN (fresh_drewN (HF.out.trans HW.out) _) _
        · have HE := Lib.hid (show ltF f g = false by rw [HR.out, drop_end (by omega : f.args.length ≤ k), drop_end (by rw [← HN.out]; omega : g.args.length ≤ k)]; rfl)
          go_wp2
          go_ret
          exact ⟨ret_bool HE.out.symm, HF.out.trans HW.out⟩
    · have HL := Lib.hid (ltF_len hn hl)
      have i1 : ((f.args.length : Int) == (g.args.length : Int)) = false := by simp; omega
      have i2 : ¬ ((f.args.length : Int) = (g.args.length : Int)) := by omega
      clear hn ha hb
      go_enter Tryz.func106, Tryz.ntmps106
      go_wp2
      go_ret
      exact ⟨by rw [HL.out]; simp, HF.out⟩
  · have HL := Lib.hid (ltF_name hn)
    have g1 : (f.name.toList == g.name.toList) = false := by rw [beq_toList]; exact decide_eq_false hn
    obtain ⟨s, hs⟩ : ∃ s, strLt f.name g.name = s := ⟨_, rfl⟩
    rw [hs] at HL
    have gs : Op.bytesLess f.name.toList g.name.toList = s := hs
    clear hs hn ha hb
    go_enter Tryz.func106, Tryz.ntmps106
    go_wp2
    go_ret
    exact ⟨ret_bool HL.out.symm, HF.out⟩
theorem equal_ltF (f g : PFact) : decide (f = g) = (!ltF f g && !ltF g f) := by
  rw [Bool.eq_iff_iff, decide_eq_true_eq]
  constructor
  · rintro rfl; simp [ltF_irrefl]
  · intro h
    simp only [Bool.and_eq_true, Bool.not_eq_true'] at h
    exact ltF_tri h.1 h.2
set_option maxHeartbeats 2000000 in
theorem equalRef {S T : Nat → Prop} (f g : PFact) (av bv : Value) (w : World) (ha : RdStrs S w av f.args) (hb : RdStrs T w bv g.args) (n1 : f.args.length ≤ 1073741824) (n2 : g.args.length ≤ 1073741824) :
    Calls Tryz.prog 69 #[.agg #[.string f.name, av], .agg #[.string g.name, bv]] w fun e w' => e = .returned (.bool (decide (f = g))) ∧ Fresh w w' := by
  obtain ⟨aa, ac, rfl, -, -, -⟩ := id ha.form
  obtain ⟨ba, bc, rfl, -, -, -⟩ := id hb.form
  have HF := Lib.hid (((Fresh.refl w).alloc (.cells #[.string f.name, .slice aa f.args.length ac] 38)).alloc (.cells #[.string g.name, .slice ba g.args.length bc] 38))
  have K1 := Lib.hid (fun W (h : Agree (fun _ => True) w W) => lessRef f g _ _ W ((ha.more RStr.steady (S' := fun _ => True) (fun _ _ _ => trivial)).agree RStr.steady h) ((hb.more RStr.steady (S' := fun _ => True) (fun _ _ _ => trivial)).agree RStr.steady h) n1)
  have K2 := Lib.hid (fun W (h : Agree (fun _ => True) w W) => lessRef g f _ _ W ((hb.more RStr.steady (S' := fun _ => True) (fun _ _ _ => trivial)).agree RStr.steady h) ((ha.more RStr.steady (S' := fun _ => True) (fun _ _ _ => trivial)).agree RStr.steady h) n2)
  have HE := Lib.hid (equal_ltF f g)
  clear ha hb
  cases h1 : ltF f g
  · rw [h1] at K1 HE
    clear h1
    have c0 : ((w.alloc (.cells #[.string f.name, .slice aa f.args.length ac] 38)).alloc (.cells #[.string g.name, .slice ba g.args.length bc] 38)).cell? ⟨w.heap.size, 0, none⟩ = some (.string f.name) := by
      rw [World.cell?_of_block (Below.heap_alloc _ _ _ (show w.heap.size < _ by simp))]; simp
    have c1 : ((w.alloc (.cells #[.string f.name, .slice aa f.args.length ac] 38)).alloc (.cells #[.string g.name, .slice ba g.args.length bc] 38)).cell? ⟨w.heap.size, 1, none⟩ = some (.slice aa f.args.length ac) := by
      rw [World.cell?_of_block (Below.heap_alloc _ _ _ (show w.heap.size < _ by simp))]; simp
    have e : w.heap.size + 1 = (w.alloc (.cells #[.string f.name, .slice aa f.args.length ac] 38)).heap.size := by simp
    have d0 : ((w.alloc (.cells #[.string f.name, .slice aa f.args.length ac] 38)).alloc (.cells #[.string g.name, .slice ba g.args.length bc] 38)).cell? ⟨w.heap.size + 1, 0, none⟩ = some (.string g.name) := by
      rw [e]; simp
    have d1 : ((w.alloc (.cells #[.string f.name, .slice aa f.args.length ac] 38)).alloc (.cells #[.string g.name, .slice ba g.args.length bc] 38)).cell? ⟨w.heap.size + 1, 1, none⟩ = some (.slice ba g.args.length bc) := by
      rw [e]; simp
    have hsz : w.heap.size + 1 < ((w.alloc (.cells #[.string f.name, .slice aa f.args.length ac] 38)).alloc (.cells #[.string g.name, .slice ba g.args.length bc] 38)).heap.size := by simp
    clear e
    go_enter Tryz.func69, Tryz.ntmps69
    go_wp2_with (first
      | (go_at_call 106; refine (K2.out _ (Below.agree (HF.out.trans HW1.out).below)).mono ?_; rintro e w2 ⟨rfl, hf2⟩; have HW2 := Lib.hid ((HF.out.trans HW1.out).trans hf2); clear hf2)
      | (go_at_call 106; refine (K1.out _ (Below.agree HF.out.below)).mono ?_; rintro e w1 ⟨rfl, hf1⟩; have HW1 := Lib.hid hf1; have x0 := (cell_below hf1.below (show w.heap.size < _ by omega) 0).trans c0; have x1 := (cell_below hf1.below (show w.heap.size < _ by omega) 1).trans c1; have y0 := (cell_below hf1.below hsz 0).trans d0; have y1 := (cell_below hf1.below hsz 1).trans d1; clear hf1))
    go_ret
    refine ⟨ret_bool ?_, HW2.out⟩
    rw [HE.out]; simp
  · rw [h1] at K1 HE
    clear h1
    go_enter Tryz.func69, Tryz.ntmps69
    go_wp2_with (go_at_call 106; refine (K1.out _ (Below.agree HF.out.below)).mono ?_; rintro e w1 ⟨rfl, hf1⟩)
    go_ret
    refine ⟨ret_bool ?_, HF.out.trans hf1⟩
    rw [HE.out]; simp
end Go.Proofs.YtiiicochdidolaaGreat
namespace Go.Proofs.YtiiicochdidolaaGreat
open Go.RowKit
theorem eq_of_get {a b : List PFact} (hl : a.length = b.length) (h : ∀ i x y, i < a.length → a[i]? = some x → b[i]? = some y → x = y) : a = b := by
  apply List.ext_getElem hl
  intro i h1 h2
  exact h i _ _ h1 (List.getElem?_eq_getElem h1) (List.getElem?_eq_getElem h2)
attribute [local go_sem ↓] Go.wp_at_zero Go.wp_at_succ
set_option maxRecDepth 100000 in
set_option maxHeartbeats 2000000 in
theorem sameRef {S T : Nat → Prop} (va vb : Value) (a b : List PFact) (w : World) (ha : RdFacts S w va a) (hb : RdFacts T w vb b) (n1 : a.length ≤ 1073741824) (n2 : ∀ x ∈ a, x.args.length ≤ 1073741824) (n3 : ∀ x ∈ b, x.args.length ≤ 1073741824) :
    Calls Tryz.prog 34 #[va, vb] w fun e w' => e = .returned (.bool (decide (a = b))) ∧ Fresh w w' := by
  obtain ⟨aa, ac, rfl, -, -, -⟩ := id ha.form
  obtain ⟨ba, bc, rfl, -, -, -⟩ := id hb.form
  by_cases hl : a.length = b.length
  · have HN := Lib.hid hl
    have HA := Lib.hid (fun W (h : Agree (fun _ => True) w W) i x (hx : a[i]? = some x) => RdFacts.at ((ha.more RFact.steady (S' := fun _ => True) (fun _ _ _ => trivial)).agree RFact.steady h) hx)
    have HB := Lib.hid (fun W (h : Agree (fun _ => True) w W) i x (hx : b[i]? = some x) => RdFacts.at ((hb.more RFact.steady (S' := fun _ => True) (fun _ _ _ => trivial)).agree RFact.steady h) hx)
    have N2 := Lib.hid n2
    have N3 := Lib.hid n3
    rw [← hl]
    clear ha hb hl n2 n3
    go_enter Tryz.func34, Tryz.ntmps34
    go_wp2
    go_loopw [13] (fun i wr => ∃ k : Nat, k ≤ a.length ∧ i = .int .i64 k ∧ Hid (∀ i x y, i < k → a[i]? = some x → b[i]? = some y → x = y) ∧ Hid (Fresh w wr)) (fun i _ => a.length - (intOf i).toNat)
    case atStart => exact ⟨0, Nat.zero_le _, rfl, Lib.hid (fun i x y h => by omega), Fresh.refl _⟩
    case round =>
      obtain ⟨k, hk, rfl, HR, HW⟩ := hrel
      by_cases hlt : k < a.length
      · obtain ⟨x, hx⟩ : ∃ x, a[k]? = some x := ⟨_, List.getElem?_eq_getElem hlt⟩
        obtain ⟨y, hy⟩ : ∃ y, b[k]? = some y := ⟨_, List.getElem?_eq_getElem (by rw [← HN.out]; exact hlt)⟩
        have hag : Agree (fun _ => True) w wr := Below.agree HW.out.below
        obtain ⟨b1, o1, av, rfl, -, hb1, c0, c1, hav⟩ := HA.out wr hag k x hx
        obtain ⟨b2, o2, bv, rfl, -, hb2, d0, d1, hbv⟩ := HB.out wr hag k y hy
        obtain ⟨xa, xc, rfl, -, -, -⟩ := id hav.form
        obtain ⟨ya, yc, rfl, -, -, -⟩ := id hbv.form
        have nx : x.args.length ≤ 1073741824 := N2.out x (List.mem_of_getElem? hx)
        have ny : y.args.length ≤ 1073741824 := N3.out y (List.mem_of_getElem? hy)
        have K := Lib.hid (fun W (h : Agree (fun _ => True) wr W) => equalRef x y _ _ W (hav.agree RStr.steady h) (hbv.agree RStr.steady h) nx ny)
        have HX := Lib.hid hx
        have HY := Lib.hid hy
        clear hx hy hag hav hbv nx ny
        have i1 : (0 : Int) ≤ (k : Int) := by omega
        have i2 : (k : Int) < (a.length : Int) := by omega
        cases hxy : decide (x = y)
        · rw [hxy] at K
          have HXY := Lib.hid (show a ≠ b from fun e => by
            have h1 := HX.out
            rw [e, HY.out] at h1
            exact of_decide_eq_false hxy (Option.some.inj h1).symm)
          clear hxy
          go_wp2_with fail
          go_region_held3 (fun w' => w'.cell? ⟨b1, o1 + k * 2, none⟩ = some (.string x.name) ∧ w'.cell? ⟨b1, o1 + k * 2 + 1, none⟩ = some (.slice xa x.args.length xc) ∧
              w'.cell? ⟨b2, o2 + k * 2, none⟩ = some (.string y.name) ∧ w'.cell? ⟨b2, o2 + k * 2 + 1, none⟩ = some (.slice ya y.args.length yc))
            (first | (refine ⟨?_, ?_, ?_, ?_⟩ <;> (first | (rw [hk2 _ hb1]; assumption) | (rw [hk2 _ hb2]; assumption))) | go_keep)
            (first
              | (go_at_call 69; refine (K.out _ (Agree.refl _ _).drew).mono ?_; rintro e w1 ⟨rfl, hf1⟩; have hk2 : ∀ c, c < wr.heap.size → ∀ off, w1.cell? ⟨c, off, none⟩ = wr.cell? ⟨c, off, none⟩ := fun c hc off => cell_below (w := wr.drew) hf1.below hc off))
          have HW2 := Lib.hid (HW.out.drew.trans hf1)
          clear hf1 hk2 c0 c1 d0 d1
          go_wp2
          go_ret
          exact ⟨ret_bool (decide_eq_false HXY.out).symm, HW2.out⟩
        · rw [hxy] at K
          have HXY := Lib.hid (of_decide_eq_true hxy)
          clear hxy
          go_wp2_with fail
          go_region_held3 (fun w' => w'.cell? ⟨b1, o1 + k * 2, none⟩ = some (.string x.name) ∧ w'.cell? ⟨b1, o1 + k * 2 + 1, none⟩ = some (.slice xa x.args.length xc) ∧
              w'.cell? ⟨b2, o2 + k * 2, none⟩ = some (.string y.name) ∧ w'.cell? ⟨b2, o2 + k * 2 + 1, none⟩ = some (.slice ya y.args.length yc))
            (first | (refine ⟨?_, ?_, ?_, ?_⟩ <;> (first | (rw [hk2 _ hb1]; assumption) | (rw [hk2 _ hb2]; assumption))) | go_keep)
            (first
              | (go_at_call 69; refine (K.out _ (Agree.refl _ _).drew).mono ?_; rintro e w1 ⟨rfl, hf1⟩; have hk2 : ∀ c, c < wr.heap.size → ∀ off, w1.cell? ⟨c, off, none⟩ = wr.cell? ⟨c, off, none⟩ := fun c hc off => cell_below (w := wr.drew) hf1.below hc off))
          have HW2 := Lib.hid (HW.out.drew.trans hf1)
          clear hf1 hk2 c0 c1 d0 d1
          go_wp2
          go_roundw
          case rel =>
            refine ⟨k + 1, by omega, by go_num, Lib.hid (fun i p q hi hp hq => ?_), HW2.out⟩
            by_cases e : i = k
            · subst e
              rw [HX.out] at hp
              rw [HY.out] at hq
              rw [← Option.some.inj hp, ← Option.some.inj hq]
              exact HXY.out
            · exact HR.out i p q (by omega) hp hq
          case measure => simp [intOf]; omega
      · have HE := Lib.hid (show a = b from eq_of_get HN.out (fun i x y hi => HR.out i x y (by omega)))
        go_wp2
        go_ret
        exact ⟨ret_bool (decide_eq_true HE.out).symm, HW.out⟩
  · have HE := Lib.hid (show a ≠ b from fun e => hl (by rw [e]))
    have i2 : ¬ ((a.length : Int) = (b.length : Int)) := by omega
    have i1 : ((a.length : Int) == (b.length : Int)) = false := by simp; omega
    clear ha hb
    go_enter Tryz.func34, Tryz.ntmps34
    go_wp2
    go_ret
    exact ⟨ret_bool (decide_eq_false HE.out).symm, Fresh.refl _⟩
end Go.Proofs.YtiiicochdidolaaGreat
namespace Go.Proofs.YtiiicochdidolaaGreat
open Go.RowKit
theorem sameRefl {S T : Nat → Prop} {va vb : Value} {a : List PFact} {w : World} (ha : RdFacts S w va a) (hb : RdFacts T w vb a) (n1 : a.length ≤ 1048576) (n2 : ∀ x ∈ a, x.args.length ≤ 1048576) :
    Calls Tryz.prog 34 #[va, vb] w fun e w' => e = .returned (.bool true) ∧ Below w.heap.size w w' :=
  (sameRef va vb a a w ha hb (by omega) (fun x hx => by have := n2 x hx; omega) (fun x hx => by have := n2 x hx; omega)).mono fun e w' ⟨he, hf⟩ => ⟨by rw [he, decide_eq_true rfl], hf.below⟩
set_option maxRecDepth 100000 in
set_option maxHeartbeats 4000000 in
theorem sameRunRefl (r : PRun) (kv nv kv' nv' : Value) (w : World) (h1 : RunRd w r kv nv) (h2 : RunRd w r kv' nv') (ns : RunSmall r) :
    Calls Tryz.prog 36 #[.agg #[kv, nv, .int .i64 r.stratum, .int .i64 r.rounds, .bool r.done], .agg #[kv', nv', .int .i64 r.stratum, .int .i64 r.rounds, .bool r.done]] w fun e w' => e = .returned (.bool true) ∧ Below w.heap.size w w' := by
  obtain ⟨rk, rn, rs, rr, rd⟩ := r
  have hb0 : Below w.heap.size w ((w.alloc (.cells #[kv, nv, .int .i64 rs, .int .i64 rr, .bool rd] 28)).alloc (.cells #[kv', nv', .int .i64 rs, .int .i64 rr, .bool rd] 28)) := ((Below.refl _ _).alloc (Nat.le_refl _) _).alloc (by simp) _
  have HB0 := Lib.hid hb0
  have hq1 := (Blk.new w 28 #[kv, nv, .int .i64 rs, .int .i64 rr, .bool rd]).alloc (.cells #[kv', nv', .int .i64 rs, .int .i64 rr, .bool rd] 28)
  have hq2 := Blk.at_ (w := w.alloc (.cells #[kv, nv, .int .i64 rs, .int .i64 rr, .bool rd] 28)) (t := 28) (cs := #[kv', nv', .int .i64 rs, .int .i64 rr, .bool rd]) (n := w.heap.size + 1) (by simp)
  have KS1 := Lib.hid (sameRefl (h1.known.up hb0) (h2.known.up hb0) ns.k1 ns.k2)
  have KS2 := Lib.hid (fun W (hW : Below w.heap.size w W) => sameRefl (h1.new.up hW) (h2.new.up hW) ns.n1 ns.n2)
  have HQ1 := Lib.hid hq1
  have HQ2 := Lib.hid hq2
  clear h1 h2 ns hb0 hq1 hq2
  go_enter Tryz.func36, Tryz.ntmps36
  have c0 := HQ1.out.cell 0; have c1 := HQ1.out.cell 1; have c2 := HQ1.out.cell 2; have c3 := HQ1.out.cell 3; have c4 := HQ1.out.cell 4
  have k0 := HQ2.out.cell 0; have k1 := HQ2.out.cell 1; have k2 := HQ2.out.cell 2; have k3 := HQ2.out.cell 3; have k4 := HQ2.out.cell 4
  simp only [List.getElem?_toArray, List.getElem?_cons_zero, List.getElem?_cons_succ] at c0 c1 c2 c3 c4 k0 k1 k2 k3 k4
  go_wp2_with (first
    | (go_at_call 34; have hh := HB2.out; clear hh; refine (KS2.out _ HB2.out).mono ?_; rintro e w3 ⟨rfl, hb3⟩; have HB3 := Lib.hid (HB2.out.trans (hb3.mono (Below.size HB2.out))); have HX3 := Lib.hid (HX2.out.below hb3 HX2.out.lt); have HY3 := Lib.hid (HY2.out.below hb3 HY2.out.lt); have m0 := HX3.out.cell 0; have m1 := HX3.out.cell 1; have m2 := HX3.out.cell 2; have m3 := HX3.out.cell 3; have m4 := HX3.out.cell 4; have n0 := HY3.out.cell 0; have n1 := HY3.out.cell 1; have n2 := HY3.out.cell 2; have n3 := HY3.out.cell 3; have n4 := HY3.out.cell 4; simp only [List.getElem?_toArray, List.getElem?_cons_zero, List.getElem?_cons_succ] at m0 m1 m2 m3 m4 n0 n1 n2 n3 n4; clear hb3)
    | (go_at_call 34; refine (KS1.out).mono ?_; rintro e w2 ⟨rfl, hb2⟩; have HB2 := Lib.hid (HB0.out.trans (hb2.mono (Below.size HB0.out))); have HX2 := Lib.hid (HQ1.out.below hb2 HQ1.out.lt); have HY2 := Lib.hid (HQ2.out.below hb2 HQ2.out.lt); have i0 := HX2.out.cell 0; have i1 := HX2.out.cell 1; have i2 := HX2.out.cell 2; have i3 := HX2.out.cell 3; have i4 := HX2.out.cell 4; have j0 := HY2.out.cell 0; have j1 := HY2.out.cell 1; have j2 := HY2.out.cell 2; have j3 := HY2.out.cell 3; have j4 := HY2.out.cell 4; simp only [List.getElem?_toArray, List.getElem?_cons_zero, List.getElem?_cons_succ] at i0 i1 i2 i3 i4 j0 j1 j2 j3 j4; clear hb2 c0 c1 c2 c3 c4 k0 k1 k2 k3 k4))
  go_ret
  exact ⟨ret_bool (by simp), HB3.out⟩
end Go.Proofs.YtiiicochdidolaaGreat
namespace Go.Proofs.YtiiicochdidolaaGreat
open Go.RowKit
set_option maxRecDepth 100000 in
theorem neqTerm (x : Bool) (y : Str) (w : World) : (binOp .neq 141 (.agg #[.bool x, .string y]) (.agg #[.bool x, .string y])).run Tryz.prog w = .ok (.bool false) w := by
  have hp : Tryz.prog.stoodInHeld 141 = false := by kernel_rfl
  have hf : Tryz.prog.fieldsOf 141 = (match Tryz.prog.underlying 141 with | some (.struct fs) => fs | _ => #[]) := rfl
  rw [Tryz.underlying141] at hf
  have hu : Tryz.prog.underlying 141 = some (.struct (Tryz.prog.fieldsOf 141)) := by rw [hf]; exact Tryz.underlying141
  simp only [binOp]
  simp [Op.equal, Op.maxDepth, run_equalIn_struct w 9999 _ _ _ hu hp, go_sem]
theorem sDrewB {B : Nat} {a w : World} (h : Below B a w) (n : Nat) : Below B a (w.drewN n) := ⟨h.os, h.tape, h.output, h.size, h.block⟩
set_option maxRecDepth 100000 in
set_option maxHeartbeats 4000000 in
theorem sameAtomRef {S T : Nat → Prop} (x : PAtom) (tv uv : Value) (w : World) (ha : RdTerms S w tv x.terms) (hb : RdTerms T w uv x.terms) (n1 : x.terms.length ≤ 1073741824) :
    Calls Tryz.prog 70 #[.agg #[.bool x.neg, .string x.name, tv], .agg #[.bool x.neg, .string x.name, uv]] w fun e w' => e = .returned (.bool true) ∧ Below w.heap.size w w' := by
  obtain ⟨a, c, rfl, -, -, -⟩ := id ha.form
  obtain ⟨b, d, rfl, -, -, -⟩ := id hb.form
  have HA := Lib.hid ha
  have HB := Lib.hid hb
  have hne := @neqTerm
  have HW0 := Lib.hid (((Below.refl w.heap.size w).alloc (Nat.le_refl _) (.cells #[.bool x.neg, .string x.name, .slice a x.terms.length c] 60)).alloc (by simp) (.cells #[.bool x.neg, .string x.name, .slice b x.terms.length d] 60))
  have HX0 := Lib.hid ((Blk.new w 60 #[.bool x.neg, .string x.name, .slice a x.terms.length c]).alloc (.cells #[.bool x.neg, .string x.name, .slice b x.terms.length d] 60))
  have HY0 := Lib.hid (show Blk ((w.alloc (.cells #[.bool x.neg, .string x.name, .slice a x.terms.length c] 60)).alloc (.cells #[.bool x.neg, .string x.name, .slice b x.terms.length d] 60)) (w.heap.size + 1) 60 #[.bool x.neg, .string x.name, .slice b x.terms.length d] from heap_new_at (by simp))
  have x0 := HX0.out.cell 0; have x1 := HX0.out.cell 1; have x2 := HX0.out.cell 2
  have y0 := HY0.out.cell 0; have y1 := HY0.out.cell 1; have y2 := HY0.out.cell 2
  simp only [List.getElem?_toArray, List.getElem?_cons_zero, List.getElem?_cons_succ] at x0 x1 x2 y0 y1 y2
  clear ha hb
  obtain ⟨neg, name, terms⟩ := x
  dsimp only at *
  cases neg
  all_goals
    go_enter Tryz.func70, Tryz.ntmps70
    go_wp2
    clear x0 x1 x2 y0 y1 y2
    go_loopw [30] (fun i wr => ∃ k : Nat, k ≤ terms.length ∧ i = .int .i64 k ∧ Hid (Below w.heap.size w wr) ∧ Hid (Blk wr w.heap.size 60 #[.bool _, .string name, .slice a terms.length c]) ∧ Hid (Blk wr (w.heap.size + 1) 60 #[.bool _, .string name, .slice b terms.length d])) (fun i _ => terms.length - (intOf i).toNat)
    case atStart => exact ⟨0, Nat.zero_le _, rfl, HW0, HX0, HY0⟩
    case round =>
      clear HW0 HX0 HY0
      obtain ⟨k, hk, rfl, HW, HX, HY⟩ := hrel
      by_cases hlt : k < terms.length
      · obtain ⟨t, ht⟩ : ∃ t, terms[k]? = some t := ⟨_, List.getElem?_eq_getElem hlt⟩
        obtain ⟨b1, o1, rfl, -, -, d0, d1⟩ := RdTerms.at (HA.out.up HW.out) ht
        obtain ⟨b2, o2, rfl, -, -, e0, e1⟩ := RdTerms.at (HB.out.up HW.out) ht
        have x2 := HX.out.cell 2
        have y2 := HY.out.cell 2
        simp only [List.getElem?_toArray, List.getElem?_cons_zero, List.getElem?_cons_succ] at x2 y2
        clear ht
        go_wp2_with fail
        go_quiet (fail)
        go_wp2
        go_roundw
        case rel => exact ⟨k + 1, by omega, by go_num, Lib.hid (sDrewB HW.out _), Lib.hid (HX.out.drewN _), Lib.hid (HY.out.drewN _)⟩
        case measure => simp [intOf]; omega
      · go_wp2
        go_ret
        exact ⟨rfl, HW.out⟩
set_option maxRecDepth 100000 in
set_option maxHeartbeats 4000000 in
theorem sameAtomsRef {S T : Nat → Prop} (l : List PAtom) (va vb : Value) (w : World) (ha : RdAtoms S w va l) (hb : RdAtoms T w vb l) (n1 : l.length ≤ 1073741824) (n2 : ∀ x ∈ l, x.terms.length ≤ 1073741824) :
    Calls Tryz.prog 71 #[va, vb] w fun e w' => e = .returned (.bool true) ∧ Below w.heap.size w w' := by
  obtain ⟨a, c, rfl, -, -, -⟩ := id ha.form
  obtain ⟨b, d, rfl, -, -, -⟩ := id hb.form
  have HA := Lib.hid ha
  have HB := Lib.hid hb
  have N2 := Lib.hid n2
  clear ha hb n2
  go_enter Tryz.func71, Tryz.ntmps71
  go_wp2
  go_loopw [13] (fun i wr => ∃ k : Nat, k ≤ l.length ∧ i = .int .i64 k ∧ Hid (Below w.heap.size w wr)) (fun i _ => l.length - (intOf i).toNat)
  case atStart => exact ⟨0, Nat.zero_le _, rfl, Lib.hid (Below.refl _ _)⟩
  case round =>
    obtain ⟨k, hk, rfl, HW⟩ := hrel
    by_cases hlt : k < l.length
    · obtain ⟨x, hx⟩ : ∃ x, l[k]? = some x := ⟨_, List.getElem?_eq_getElem hlt⟩
      have nx := N2.out x (List.mem_of_getElem? hx)
      obtain ⟨b1, o1, tv, rfl, -, hb1, d0, d1, d2, htv⟩ := RdAtoms.at (HA.out.up HW.out) hx
      obtain ⟨b2, o2, uv, rfl, -, hb2, e0, e1, e2, huv⟩ := RdAtoms.at (HB.out.up HW.out) hx
      obtain ⟨ta, tc, rfl, -, -, -⟩ := id htv.form
      obtain ⟨ua, uc, rfl, -, -, -⟩ := id huv.form
      have K := Lib.hid (fun W (h : Below wr.heap.size wr W) => sameAtomRef x _ _ W (htv.up h) (huv.up h) nx)
      clear hx htv huv
      have i1 : (0 : Int) ≤ (k : Int) := by omega
      have i2 : (k : Int) < (l.length : Int) := by omega
      go_wp2_with fail
      go_region_held3 (fun w' => w'.cell? ⟨b1, o1 + k * 3, none⟩ = some (.bool x.neg) ∧ w'.cell? ⟨b1, o1 + k * 3 + 1, none⟩ = some (.string x.name) ∧ w'.cell? ⟨b1, o1 + k * 3 + 2, none⟩ = some (.slice ta x.terms.length tc) ∧
          w'.cell? ⟨b2, o2 + k * 3, none⟩ = some (.bool x.neg) ∧ w'.cell? ⟨b2, o2 + k * 3 + 1, none⟩ = some (.string x.name) ∧ w'.cell? ⟨b2, o2 + k * 3 + 2, none⟩ = some (.slice ua x.terms.length uc))
        (first | (refine ⟨?_, ?_, ?_, ?_, ?_, ?_⟩ <;> (first | (rw [hk2 _ hb1]; assumption) | (rw [hk2 _ hb2]; assumption))) | go_keep)
        (first
          | (go_at_call 70; refine (K.out _ (Below.refl _ _).drew).mono ?_; rintro e w1 ⟨rfl, hf1⟩; have hk2 : ∀ c, c < wr.heap.size → ∀ off, w1.cell? ⟨c, off, none⟩ = wr.cell? ⟨c, off, none⟩ := fun c hc off => cell_below (w := wr.drew) hf1 hc off))
      have HW2 := Lib.hid (HW.out.drew.trans (hf1.mono HW.out.size))
      clear hf1 hk2 d0 d1 d2 e0 e1 e2
      go_wp2
      go_roundw
      case rel => exact ⟨k + 1, by omega, by go_num, HW2⟩
      case measure => simp [intOf]; omega
    · go_wp2
      go_ret
      exact ⟨rfl, HW.out⟩
set_option maxRecDepth 100000 in
set_option maxHeartbeats 8000000 in
theorem sameProgramRef {S T : Nat → Prop} (l : List PRule) (va vb : Value) (w : World) (ha : RdRules S w va l) (hb : RdRules T w vb l) (n1 : l.length ≤ 1073741824) (n2 : ∀ r ∈ l, RuleSmall r) :
    Calls Tryz.prog 35 #[va, vb] w fun e w' => e = .returned (.bool true) ∧ Below w.heap.size w w' := by
  obtain ⟨a, c, rfl, -, -, -⟩ := id ha.form
  obtain ⟨b, d, rfl, -, -, -⟩ := id hb.form
  have HA := Lib.hid ha
  have HB := Lib.hid hb
  have N2 := Lib.hid n2
  clear ha hb n2
  go_enter Tryz.func35, Tryz.ntmps35
  go_wp2
  go_loopw [13] (fun i wr => ∃ k : Nat, k ≤ l.length ∧ i = .int .i64 k ∧ Hid (Below w.heap.size w wr)) (fun i _ => l.length - (intOf i).toNat)
  case atStart => exact ⟨0, Nat.zero_le _, rfl, Lib.hid (Below.refl _ _)⟩
  case round =>
    obtain ⟨k, hk, rfl, HW⟩ := hrel
    by_cases hlt : k < l.length
    · obtain ⟨x, hx⟩ : ∃ x, l[k]? = some x := ⟨_, List.getElem?_eq_getElem hlt⟩
      have hs := N2.out x (List.mem_of_getElem? hx)
      obtain ⟨b1, o1, tv, bv, rfl, -, hb1, d0, d1, d2, d3, htv, hbv⟩ := RdRules.at (HA.out.up HW.out) hx
      obtain ⟨b2, o2, uv, cv, rfl, -, hb2, e0, e1, e2, e3, huv, hcv⟩ := RdRules.at (HB.out.up HW.out) hx
      obtain ⟨ta, tc, rfl, -, -, -⟩ := id htv.form
      obtain ⟨ua, uc, rfl, -, -, -⟩ := id huv.form
      obtain ⟨ba, bc, rfl, -, -, -⟩ := id hbv.form
      obtain ⟨ca, cc, rfl, -, -, -⟩ := id hcv.form
      have K1 := Lib.hid (fun W (h : Below wr.heap.size wr W) => sameAtomRef x.head _ _ W (htv.up h) (huv.up h) (by have := hs.h1; omega))
      have K2 := Lib.hid (fun W (h : Below wr.heap.size wr W) => sameAtomsRef x.body _ _ W (hbv.up h) (hcv.up h) (by have := hs.b0; omega) (fun y hy => by have := hs.b1 y hy; omega))
      clear hx htv huv hbv hcv hs
      have i1 : (0 : Int) ≤ (k : Int) := by omega
      have i2 : (k : Int) < (l.length : Int) := by omega
      go_wp2_with fail
      go_region_held3 (fun w' => w'.cell? ⟨b1, o1 + k * 4, none⟩ = some (.bool x.head.neg) ∧ w'.cell? ⟨b1, o1 + k * 4 + 1, none⟩ = some (.string x.head.name) ∧ w'.cell? ⟨b1, o1 + k * 4 + 2, none⟩ = some (.slice ta x.head.terms.length tc) ∧ w'.cell? ⟨b1, o1 + k * 4 + 3, none⟩ = some (.slice ba x.body.length bc) ∧
          w'.cell? ⟨b2, o2 + k * 4, none⟩ = some (.bool x.head.neg) ∧ w'.cell? ⟨b2, o2 + k * 4 + 1, none⟩ = some (.string x.head.name) ∧ w'.cell? ⟨b2, o2 + k * 4 + 2, none⟩ = some (.slice ua x.head.terms.length uc) ∧ w'.cell? ⟨b2, o2 + k * 4 + 3, none⟩ = some (.slice ca x.body.length cc))
        (first | (refine ⟨?_, ?_, ?_, ?_, ?_, ?_, ?_, ?_⟩ <;> (first | (rw [hk3 _ hb1]; assumption) | (rw [hk3 _ hb2]; assumption))) | (refine ⟨?_, ?_, ?_, ?_, ?_, ?_, ?_, ?_⟩ <;> (first | (rw [hk2 _ hb1]; assumption) | (rw [hk2 _ hb2]; assumption))) | go_keep)
        (first
          | (go_at_call 71; refine (K2.out _ HF1.out).mono ?_; rintro e w2 ⟨rfl, hf2⟩; have HF2 := Lib.hid (HF1.out.trans (hf2.mono HF1.out.size)); have hk3 : ∀ c, c < wr.heap.size → ∀ off, w2.cell? ⟨c, off, none⟩ = wr.cell? ⟨c, off, none⟩ := fun c hc off => cell_below HF2.out hc off)
          | (go_at_call 70; refine (K1.out _ (Below.refl _ _).drew).mono ?_; rintro e w1 ⟨rfl, hf1⟩; have HF1 := Lib.hid (show Below wr.heap.size wr w1 from (Below.refl _ _).drew.trans hf1); have hk2 : ∀ c, c < wr.heap.size → ∀ off, w1.cell? ⟨c, off, none⟩ = wr.cell? ⟨c, off, none⟩ := fun c hc off => cell_below (w := wr.drew) hf1 hc off))
      have HW2 := Lib.hid (HW.out.trans (HF2.out.mono HW.out.size))
      clear hk2 hk3 d0 d1 d2 d3 e0 e1 e2 e3 HF1 HF2
      go_wp2
      go_roundw
      case rel => exact ⟨k + 1, by omega, by go_num, HW2⟩
      case measure => simp [intOf]; omega
    · go_wp2
      go_ret
      exact ⟨rfl, HW.out⟩
end Go.Proofs.YtiiicochdidolaaGreat
namespace Go.Proofs.YtiiicochdidolaaGreat
open Go.RowKit
set_option maxRecDepth 100000 in
theorem conv9 {w : World} {S : Nat → Prop} {a : Option Addr} {n c : Nat} {bs : Bytes} (h : RdBytes S w (.slice a n c) bs) (hn : bs.length = n) : (convert 29 9 (.slice a n c)).run Tryz.prog w = .ok (.string (strOf bs)) w :=
  rd_conv (B := w.heap.size) (h.more RU8.steady (fun _ _ hl => hl)) hn
set_option maxRecDepth 100000 in
theorem saved_conv {S : Nat → Prop} {o : Option Bytes} {w : World} {a : Option Addr} {n c : Nat} (h : SavedRd S o w (.slice a n c)) : (convert 29 9 (.slice a n c)).run Tryz.prog w = .ok (.string (strOf (o.getD []))) w := by
  cases o with
  | none =>
    have h' : Value.slice a n c = .slice none 0 0 := h
    injection h' with e1 e2 e3
    subst e1 e2 e3
    exact conv9 (S := fun _ => True) (bs := []) ⟨none, 0, rfl, Nat.le_refl _, Nat.zero_le _, fun _ => rfl, fun i x hx => by simp at hx⟩ rfl
  | some b =>
    obtain ⟨a', c', e, hr⟩ := h
    injection e with e1 e2 e3
    subst e1 e2 e3
    exact conv9 hr rfl
set_option maxRecDepth 100000 in
set_option maxHeartbeats 8000000 in
theorem sameDeskRefl (d : PDesk) (ta tc ra rc ka kc na nc) (sa : Option Addr) (sn sc : Nat) (pta ptc pra prc pka pkc pna pnc) (psa : Option Addr) (psn psc : Nat) (w : World) (h1 : DkRd d (.slice ta d.told.length tc) (.slice ra d.rules.length rc) (.slice ka d.run.known.length kc) (.slice na d.run.new.length nc) (.slice sa sn sc) w) (h2 : DkRd d (.slice pta d.told.length ptc) (.slice pra d.rules.length prc) (.slice pka d.run.known.length pkc) (.slice pna d.run.new.length pnc) (.slice psa psn psc) w)
    (n1 : d.told.length ≤ 1048576) (n2 : ∀ x ∈ d.told, x.args.length ≤ 1048576) (n3 : RulesOk d) (n4 : RunSmall d.run) (n5 : d.rules.length ≤ 1048576) :
    Calls Tryz.prog 15 #[.agg #[.slice ta d.told.length tc, .slice ra d.rules.length rc, .bool d.running, .slice ka d.run.known.length kc, .slice na d.run.new.length nc, .int .i64 d.run.stratum, .int .i64 d.run.rounds, .bool d.run.done, .slice sa sn sc], .agg #[.slice pta d.told.length ptc, .slice pra d.rules.length prc, .bool d.running, .slice pka d.run.known.length pkc, .slice pna d.run.new.length pnc, .int .i64 d.run.stratum, .int .i64 d.run.rounds, .bool d.run.done, .slice psa psn psc]] w fun e w' => e = .returned (.bool true) ∧ Below w.heap.size w w' := by
  obtain ⟨W0, hW0⟩ : ∃ W0 : World, (w.alloc (.cells #[.slice ta d.told.length tc, .slice ra d.rules.length rc, .bool d.running, .slice ka d.run.known.length kc, .slice na d.run.new.length nc, .int .i64 d.run.stratum, .int .i64 d.run.rounds, .bool d.run.done, .slice sa sn sc] 31)).alloc (.cells #[.slice pta d.told.length ptc, .slice pra d.rules.length prc, .bool d.running, .slice pka d.run.known.length pkc, .slice pna d.run.new.length pnc, .int .i64 d.run.stratum, .int .i64 d.run.rounds, .bool d.run.done, .slice psa psn psc] 31) = W0 := ⟨_, rfl⟩
  have HB0 := Lib.hid (show Below w.heap.size w W0 by subst hW0; exact ((Below.refl _ _).alloc (Nat.le_refl _) _).alloc (by simp) _)
  have H1_0 := Lib.hid (show Blk W0 w.heap.size 31 #[.slice ta d.told.length tc, .slice ra d.rules.length rc, .bool d.running, .slice ka d.run.known.length kc, .slice na d.run.new.length nc, .int .i64 d.run.stratum, .int .i64 d.run.rounds, .bool d.run.done, .slice sa sn sc] by subst hW0; exact (Blk.new w _ _).alloc _)
  have H2_0 := Lib.hid (show Blk W0 (w.heap.size + 1) 31 #[.slice pta d.told.length ptc, .slice pra d.rules.length prc, .bool d.running, .slice pka d.run.known.length pkc, .slice pna d.run.new.length pnc, .int .i64 d.run.stratum, .int .i64 d.run.rounds, .bool d.run.done, .slice psa psn psc] by subst hW0; exact heap_new_at (by simp))
  have R1_0 := Lib.hid (h1.agree (Below.agree HB0.out))
  have R2_0 := Lib.hid (h2.agree (Below.agree HB0.out))
  have HN2 := Lib.hid n2
  have HN3 := Lib.hid n3
  have HN4 := Lib.hid n4
  clear h1 h2 n2 n3 n4
  have c0 := H1_0.out.cell 0; have c1 := H1_0.out.cell 1; have c2 := H1_0.out.cell 2; have c3 := H1_0.out.cell 3; have c4 := H1_0.out.cell 4; have c5 := H1_0.out.cell 5; have c6 := H1_0.out.cell 6; have c7 := H1_0.out.cell 7; have c8 := H1_0.out.cell 8; simp only [List.getElem?_toArray, List.getElem?_cons_zero, List.getElem?_cons_succ] at c0 c1 c2 c3 c4 c5 c6 c7 c8
  have t0 := H2_0.out.cell 0; have t1 := H2_0.out.cell 1; have t2 := H2_0.out.cell 2; have t3 := H2_0.out.cell 3; have t4 := H2_0.out.cell 4; have t5 := H2_0.out.cell 5; have t6 := H2_0.out.cell 6; have t7 := H2_0.out.cell 7; have t8 := H2_0.out.cell 8; simp only [List.getElem?_toArray, List.getElem?_cons_zero, List.getElem?_cons_succ] at t0 t1 t2 t3 t4 t5 t6 t7 t8
  go_enter Tryz.func15, Tryz.ntmps15
  go_wp2_with (first
    | (go_at_call 36; have hh := HB2.out; clear hh; refine (sameRunRefl d.run _ _ _ _ _ ⟨R1_2.out.known, R1_2.out.new⟩ ⟨R2_2.out.known, R2_2.out.new⟩ HN4.out).mono ?_; rintro e w3 ⟨rfl, hb3⟩; have H1_3 := Lib.hid (H1_2.out.below hb3 H1_2.out.lt); have H2_3 := Lib.hid (H2_2.out.below hb3 H2_2.out.lt); have R1_3 := Lib.hid (R1_2.out.agree (Below.agree hb3)); have R2_3 := Lib.hid (R2_2.out.agree (Below.agree hb3)); have HB3 := Lib.hid (HB2.out.trans (hb3.mono HB2.out.size)); have c0 := H1_3.out.cell 0; have c1 := H1_3.out.cell 1; have c2 := H1_3.out.cell 2; have c3 := H1_3.out.cell 3; have c4 := H1_3.out.cell 4; have c5 := H1_3.out.cell 5; have c6 := H1_3.out.cell 6; have c7 := H1_3.out.cell 7; have c8 := H1_3.out.cell 8; simp only [List.getElem?_toArray, List.getElem?_cons_zero, List.getElem?_cons_succ] at c0 c1 c2 c3 c4 c5 c6 c7 c8; have t0 := H2_3.out.cell 0; have t1 := H2_3.out.cell 1; have t2 := H2_3.out.cell 2; have t3 := H2_3.out.cell 3; have t4 := H2_3.out.cell 4; have t5 := H2_3.out.cell 5; have t6 := H2_3.out.cell 6; have t7 := H2_3.out.cell 7; have t8 := H2_3.out.cell 8; simp only [List.getElem?_toArray, List.getElem?_cons_zero, List.getElem?_cons_succ] at t0 t1 t2 t3 t4 t5 t6 t7 t8; clear hb3; have q1 := saved_conv R1_3.out.saved; have q2 := saved_conv R2_3.out.saved)
    | (go_at_call 35; have hh := HB1.out; clear hh; refine (sameProgramRef d.rules _ _ _ R1_1.out.rules R2_1.out.rules (by omega) (fun r hr => ruleOk_small (HN3.out r hr))).mono ?_; rintro e w2 ⟨rfl, hb2⟩; have H1_2 := Lib.hid (H1_1.out.below hb2 H1_1.out.lt); have H2_2 := Lib.hid (H2_1.out.below hb2 H2_1.out.lt); have R1_2 := Lib.hid (R1_1.out.agree (Below.agree hb2)); have R2_2 := Lib.hid (R2_1.out.agree (Below.agree hb2)); have HB2 := Lib.hid (HB1.out.trans (hb2.mono HB1.out.size)); have c0 := H1_2.out.cell 0; have c1 := H1_2.out.cell 1; have c2 := H1_2.out.cell 2; have c3 := H1_2.out.cell 3; have c4 := H1_2.out.cell 4; have c5 := H1_2.out.cell 5; have c6 := H1_2.out.cell 6; have c7 := H1_2.out.cell 7; have c8 := H1_2.out.cell 8; simp only [List.getElem?_toArray, List.getElem?_cons_zero, List.getElem?_cons_succ] at c0 c1 c2 c3 c4 c5 c6 c7 c8; have t0 := H2_2.out.cell 0; have t1 := H2_2.out.cell 1; have t2 := H2_2.out.cell 2; have t3 := H2_2.out.cell 3; have t4 := H2_2.out.cell 4; have t5 := H2_2.out.cell 5; have t6 := H2_2.out.cell 6; have t7 := H2_2.out.cell 7; have t8 := H2_2.out.cell 8; simp only [List.getElem?_toArray, List.getElem?_cons_zero, List.getElem?_cons_succ] at t0 t1 t2 t3 t4 t5 t6 t7 t8; clear hb2)
    | (go_at_call 34; refine (sameRefl R1_0.out.told R2_0.out.told n1 HN2.out).mono ?_; rintro e w1 ⟨rfl, hb1⟩; have H1_1 := Lib.hid (H1_0.out.below hb1 H1_0.out.lt); have H2_1 := Lib.hid (H2_0.out.below hb1 H2_0.out.lt); have R1_1 := Lib.hid (R1_0.out.agree (Below.agree hb1)); have R2_1 := Lib.hid (R2_0.out.agree (Below.agree hb1)); have HB1 := Lib.hid (HB0.out.trans (hb1.mono HB0.out.size)); have c0 := H1_1.out.cell 0; have c1 := H1_1.out.cell 1; have c2 := H1_1.out.cell 2; have c3 := H1_1.out.cell 3; have c4 := H1_1.out.cell 4; have c5 := H1_1.out.cell 5; have c6 := H1_1.out.cell 6; have c7 := H1_1.out.cell 7; have c8 := H1_1.out.cell 8; simp only [List.getElem?_toArray, List.getElem?_cons_zero, List.getElem?_cons_succ] at c0 c1 c2 c3 c4 c5 c6 c7 c8; have t0 := H2_1.out.cell 0; have t1 := H2_1.out.cell 1; have t2 := H2_1.out.cell 2; have t3 := H2_1.out.cell 3; have t4 := H2_1.out.cell 4; have t5 := H2_1.out.cell 5; have t6 := H2_1.out.cell 6; have t7 := H2_1.out.cell 7; have t8 := H2_1.out.cell 8; simp only [List.getElem?_toArray, List.getElem?_cons_zero, List.getElem?_cons_succ] at t0 t1 t2 t3 t4 t5 t6 t7 t8; clear hb1))
  go_ret
  exact ⟨ret_bool (by simp), HB3.out⟩
end Go.Proofs.YtiiicochdidolaaGreat
