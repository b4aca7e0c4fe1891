/-
  THE LAW FactOrder: of two facts one comes first, or they are the same; and so on.
-/
import Derived.Test.YtgdokncccldgiaaAlive1
import Derived.Test.YtgdokncccldgiaaEntry
namespace Go.Proofs.Ytgdokncccldgiaa
open Go.RowKit Go.ChangeShapes Go.WideShapes Go.ChangeAt

/-- The world behind the boxes. -/
structure Box3 (w w' : World) (f g h : PFact) (av bv cv : Value) : Prop where
  below : Below w.heap.size w w'
  size : w.heap.size + 2 < w'.heap.size
  f0 : w'.cell? ⟨w.heap.size, 0, none⟩ = some (.string f.name)
  f1 : w'.cell? ⟨w.heap.size, 1, none⟩ = some av
  g0 : w'.cell? ⟨w.heap.size + 1, 0, none⟩ = some (.string g.name)
  g1 : w'.cell? ⟨w.heap.size + 1, 1, none⟩ = some bv
  h0 : w'.cell? ⟨w.heap.size + 1 + 1, 0, none⟩ = some (.string h.name)
  h1 : w'.cell? ⟨w.heap.size + 1 + 1, 1, none⟩ = some cv
theorem Box3.next {w w' w'' : World} {f g h : PFact} {av bv cv : Value} (b : Box3 w w' f g h av bv cv) (hb : Below w'.heap.size w' w'') : Box3 w w'' f g h av bv cv := by
  have hs := b.size
  exact ⟨b.below.trans (hb.mono (by omega)), by have := hb.size; omega, (cell_below hb (by omega) _).trans b.f0, (cell_below hb (by omega) _).trans b.f1, (cell_below hb (by omega) _).trans b.g0, (cell_below hb (by omega) _).trans b.g1, (cell_below hb (by omega) _).trans b.h0, (cell_below hb (by omega) _).trans b.h1⟩
theorem Box3.drew {w w' : World} {f g h : PFact} {av bv cv : Value} (b : Box3 w w' f g h av bv cv) : Box3 w w'.drew f g h av bv cv := ⟨b.below.drew, b.size, b.f0, b.f1, b.g0, b.g1, b.h0, b.h1⟩
theorem Box3.start (w : World) (f g h : PFact) (av bv cv : Value) : Box3 w (((w.alloc (.cells #[.string f.name, av] 57)).alloc (.cells #[.string g.name, bv] 57)).alloc (.cells #[.string h.name, cv] 57)) f g h av bv cv := by
  refine ⟨(((Below.refl _ _).alloc (Nat.le_refl _) _).alloc (by simp) _).alloc (by simp; omega) _, by simp, ?_, ?_, ?_, ?_, ?_, ?_⟩
  · rw [World.cell?_of_block (Below.heap_alloc _ _ _ (show w.heap.size < _ by simp; omega)), World.cell?_of_block (Below.heap_alloc _ _ _ (show w.heap.size < _ by simp))]
    exact new_at rfl 0
  · rw [World.cell?_of_block (Below.heap_alloc _ _ _ (show w.heap.size < _ by simp; omega)), World.cell?_of_block (Below.heap_alloc _ _ _ (show w.heap.size < _ by simp))]
    exact new_at rfl 1
  · rw [World.cell?_of_block (Below.heap_alloc _ _ _ (show w.heap.size + 1 < _ by simp))]
    exact new_at (by simp) 0
  · rw [World.cell?_of_block (Below.heap_alloc _ _ _ (show w.heap.size + 1 < _ by simp))]
    exact new_at (by simp) 1
  · exact new_at (by simp) 0
  · exact new_at (by simp) 1

attribute [local go_sem ↓] Go.wp_at_zero Go.wp_at_succ
set_option maxRecDepth 100000 in
set_option maxHeartbeats 4000000 in
theorem factOrderCalls (f g h : PFact) (av bv cv : Value) (w : World) (ha : RdStrs (fun _ => True) w av f.args) (hb : RdStrs (fun _ => True) w bv g.args) (hc : RdStrs (fun _ => True) w cv h.args) (n1 : f.args.length ≤ 1073741824) (n2 : g.args.length ≤ 1073741824) :
    Calls Try.prog 12 #[.agg #[.string f.name, av], .agg #[.string g.name, bv], .agg #[.string h.name, cv]] w fun e w' => e = .returned (.bool true) ∧ Below w.heap.size w w' := by
  obtain ⟨aa, ac, rfl, -, -, -⟩ := id ha.form
  obtain ⟨ba, bc, rfl, -, -, -⟩ := id hb.form
  obtain ⟨ca, cc, rfl, -, -, -⟩ := id hc.form
  have Kfg := Lib.hid (fun W (hW : Below w.heap.size w W) => compareFact f g _ _ W (ha.agree RStr.steady (Below.agree hW)) (hb.agree RStr.steady (Below.agree hW)) n1)
  have Kgf := Lib.hid (fun W (hW : Below w.heap.size w W) => compareFact g f _ _ W (hb.agree RStr.steady (Below.agree hW)) (ha.agree RStr.steady (Below.agree hW)) n2)
  have Kgh := Lib.hid (fun W (hW : Below w.heap.size w W) => compareFact g h _ _ W (hb.agree RStr.steady (Below.agree hW)) (hc.agree RStr.steady (Below.agree hW)) n2)
  have Kfh := Lib.hid (fun W (hW : Below w.heap.size w W) => compareFact f h _ _ W (ha.agree RStr.steady (Below.agree hW)) (hc.agree RStr.steady (Below.agree hW)) n1)
  have h1 := cmpFact3.anti f g
  have h2 := cmpFact3.anti g f
  have h3 := cmpFact3.trans f g h
  clear ha hb hc n1 n2
  obtain ⟨x, hx⟩ : ∃ x, cmpFact f g = x := ⟨_, rfl⟩
  obtain ⟨y, hy⟩ : ∃ y, cmpFact g f = y := ⟨_, rfl⟩
  obtain ⟨z, hz⟩ : ∃ z, cmpFact g h = z := ⟨_, rfl⟩
  obtain ⟨u, hu⟩ : ∃ u, cmpFact f h = u := ⟨_, rfl⟩
  rw [hx] at Kfg h1 h2 h3
  rw [hy] at Kgf h1 h2
  rw [hz] at Kgh h3
  rw [hu] at Kfh h3
  clear hx hy hz hu
  have HS := Lib.hid (Box3.start w f g h (.slice aa f.args.length ac) (.slice ba g.args.length bc) (.slice ca h.args.length cc))
  rcases (show (x < 0 ∧ z < 0) ∨ (x < 0 ∧ ¬ z < 0) ∨ (¬ x < 0 ∧ x = 0) ∨ (¬ x < 0 ∧ x ≠ 0) by omega) with ⟨hx, hz⟩ | ⟨hx, hz⟩ | ⟨hx, hx0⟩ | ⟨hx, hx0⟩
  · have hy : 0 < y := h1.1 hx
    have hu : u < 0 := h3 hx hz
    have x0 : (x == 0) = false := by simp; omega
    have y0 : (y == 0) = false := by simp; omega
    have dx : decide (x < 0) = true := decide_eq_true hx
    have dy : decide (0 < y) = true := decide_eq_true hy
    have dz : decide (z < 0) = true := decide_eq_true hz
    have du : decide (u < 0) = true := decide_eq_true hu
    clear h1 h2 h3
    go_enter Try.func12, Try.ntmps12
    go_wp2_with (go_at_call 57; refine (alive1Calls _).mono ?_; rintro e w1 ⟨rfl, hb1⟩; have HI := Lib.hid (HS.out.next hb1); clear hb1; have f0 := HI.out.f0; have f1 := HI.out.f1; have g0 := HI.out.g0; have g1 := HI.out.g1)
    go_region_held3 (fun w' => w'.cell? ⟨w.heap.size, 0, none⟩ = some (.string f.name) ∧ w'.cell? ⟨w.heap.size, 1, none⟩ = some (.slice aa f.args.length ac) ∧ w'.cell? ⟨w.heap.size + 1, 0, none⟩ = some (.string g.name) ∧ w'.cell? ⟨w.heap.size + 1, 1, none⟩ = some (.slice ba g.args.length bc))
      (first | (exact ⟨HI3.out.f0, HI3.out.f1, HI3.out.g0, HI3.out.g1⟩) | (exact ⟨HI2.out.f0, HI2.out.f1, HI2.out.g0, HI2.out.g1⟩) | go_keep)
      (first
        | (go_at_call 51; refine (Kgf.out _ HI2.out.below).mono ?_; rintro e w3 ⟨rfl, hf3⟩; have HI3 := Lib.hid (HI2.out.next hf3.below); clear hf3)
        | (go_at_call 51; refine (Kfg.out _ HI.out.drew.below).mono ?_; rintro e w2 ⟨rfl, hf2⟩; have HI2 := Lib.hid (HI.out.drew.next hf2.below); clear hf2))
    have f0 := HI3.out.f0
    have f1 := HI3.out.f1
    have g0 := HI3.out.g0
    have g1 := HI3.out.g1
    have k0 := HI3.out.h0
    have k1 := HI3.out.h1
    go_wp2_with (first | (go_at_call 51; refine (Kfh.out _ HI4.out.below).mono ?_; rintro e w5 ⟨rfl, hf5⟩; have HI5 := Lib.hid (HI4.out.next hf5.below); clear hf5) | (go_at_call 51; refine (Kgh.out _ HI3.out.below).mono ?_; rintro e w4 ⟨rfl, hf4⟩; have HI4 := Lib.hid (HI3.out.next hf4.below); clear hf4; have f0 := HI4.out.f0; have f1 := HI4.out.f1; have k0 := HI4.out.h0; have k1 := HI4.out.h1))
    go_ret
    exact ⟨rfl, HI5.out.below⟩
  · have hy : 0 < y := h1.1 hx
    have x0 : (x == 0) = false := by simp; omega
    have y0 : (y == 0) = false := by simp; omega
    have dx : decide (x < 0) = true := decide_eq_true hx
    have dy : decide (0 < y) = true := decide_eq_true hy
    have dz : decide (z < 0) = false := decide_eq_false hz
    clear h1 h2 h3
    go_enter Try.func12, Try.ntmps12
    go_wp2_with (go_at_call 57; refine (alive1Calls _).mono ?_; rintro e w1 ⟨rfl, hb1⟩; have HI := Lib.hid (HS.out.next hb1); clear hb1; have f0 := HI.out.f0; have f1 := HI.out.f1; have g0 := HI.out.g0; have g1 := HI.out.g1)
    go_region_held3 (fun w' => w'.cell? ⟨w.heap.size, 0, none⟩ = some (.string f.name) ∧ w'.cell? ⟨w.heap.size, 1, none⟩ = some (.slice aa f.args.length ac) ∧ w'.cell? ⟨w.heap.size + 1, 0, none⟩ = some (.string g.name) ∧ w'.cell? ⟨w.heap.size + 1, 1, none⟩ = some (.slice ba g.args.length bc))
      (first | (exact ⟨HI3.out.f0, HI3.out.f1, HI3.out.g0, HI3.out.g1⟩) | (exact ⟨HI2.out.f0, HI2.out.f1, HI2.out.g0, HI2.out.g1⟩) | go_keep)
      (first
        | (go_at_call 51; refine (Kgf.out _ HI2.out.below).mono ?_; rintro e w3 ⟨rfl, hf3⟩; have HI3 := Lib.hid (HI2.out.next hf3.below); clear hf3)
        | (go_at_call 51; refine (Kfg.out _ HI.out.drew.below).mono ?_; rintro e w2 ⟨rfl, hf2⟩; have HI2 := Lib.hid (HI.out.drew.next hf2.below); clear hf2))
    have f0 := HI3.out.f0
    have f1 := HI3.out.f1
    have g0 := HI3.out.g0
    have g1 := HI3.out.g1
    have k0 := HI3.out.h0
    have k1 := HI3.out.h1
    go_wp2_with (go_at_call 51; refine (Kgh.out _ HI3.out.below).mono ?_; rintro e w4 ⟨rfl, hf4⟩; have HI4 := Lib.hid (HI3.out.next hf4.below); clear hf4; have f0 := HI4.out.f0; have f1 := HI4.out.f1; have k0 := HI4.out.h0; have k1 := HI4.out.h1)
    go_ret
    exact ⟨rfl, HI4.out.below⟩
  · obtain rfl : x = 0 := hx0
    obtain rfl : y = 0 := by omega
    clear h1 h2 h3 hx
    go_enter Try.func12, Try.ntmps12
    go_wp2_with (go_at_call 57; refine (alive1Calls _).mono ?_; rintro e w1 ⟨rfl, hb1⟩; have HI := Lib.hid (HS.out.next hb1); clear hb1; have f0 := HI.out.f0; have f1 := HI.out.f1; have g0 := HI.out.g0; have g1 := HI.out.g1)
    go_region_held3 (fun w' => w'.cell? ⟨w.heap.size, 0, none⟩ = some (.string f.name) ∧ w'.cell? ⟨w.heap.size, 1, none⟩ = some (.slice aa f.args.length ac) ∧ w'.cell? ⟨w.heap.size + 1, 0, none⟩ = some (.string g.name) ∧ w'.cell? ⟨w.heap.size + 1, 1, none⟩ = some (.slice ba g.args.length bc))
      (first | (exact ⟨HI3.out.f0, HI3.out.f1, HI3.out.g0, HI3.out.g1⟩) | (exact ⟨HI2.out.f0, HI2.out.f1, HI2.out.g0, HI2.out.g1⟩) | go_keep)
      (first
        | (go_at_call 51; refine (Kgf.out _ HI2.out.below).mono ?_; rintro e w3 ⟨rfl, hf3⟩; have HI3 := Lib.hid (HI2.out.next hf3.below); clear hf3)
        | (go_at_call 51; refine (Kfg.out _ HI.out.drew.below).mono ?_; rintro e w2 ⟨rfl, hf2⟩; have HI2 := Lib.hid (HI.out.drew.next hf2.below); clear hf2))
    have f0 := HI3.out.f0
    have f1 := HI3.out.f1
    have g0 := HI3.out.g0
    have g1 := HI3.out.g1
    have k0 := HI3.out.h0
    have k1 := HI3.out.h1
    go_wp2
    go_ret
    exact ⟨rfl, HI3.out.below⟩
  · have hy : y < 0 := by omega
    have hx1 : 0 < x := by omega
    have hy1 : ¬ 0 < y := by omega
    have x0 : (x == 0) = false := by simp; omega
    have y0 : (y == 0) = false := by simp; omega
    have dx : decide (x < 0) = false := decide_eq_false hx
    have dy : decide (0 < y) = false := decide_eq_false hy1
    clear h1 h2 h3
    go_enter Try.func12, Try.ntmps12
    go_wp2_with (go_at_call 57; refine (alive1Calls _).mono ?_; rintro e w1 ⟨rfl, hb1⟩; have HI := Lib.hid (HS.out.next hb1); clear hb1; have f0 := HI.out.f0; have f1 := HI.out.f1; have g0 := HI.out.g0; have g1 := HI.out.g1)
    go_region_held3 (fun w' => w'.cell? ⟨w.heap.size, 0, none⟩ = some (.string f.name) ∧ w'.cell? ⟨w.heap.size, 1, none⟩ = some (.slice aa f.args.length ac) ∧ w'.cell? ⟨w.heap.size + 1, 0, none⟩ = some (.string g.name) ∧ w'.cell? ⟨w.heap.size + 1, 1, none⟩ = some (.slice ba g.args.length bc))
      (first | (exact ⟨HI3.out.f0, HI3.out.f1, HI3.out.g0, HI3.out.g1⟩) | (exact ⟨HI2.out.f0, HI2.out.f1, HI2.out.g0, HI2.out.g1⟩) | go_keep)
      (first
        | (go_at_call 51; refine (Kgf.out _ HI2.out.below).mono ?_; rintro e w3 ⟨rfl, hf3⟩; have HI3 := Lib.hid (HI2.out.next hf3.below); clear hf3)
        | (go_at_call 51; refine (Kfg.out _ HI.out.drew.below).mono ?_; rintro e w2 ⟨rfl, hf2⟩; have HI2 := Lib.hid (HI.out.drew.next hf2.below); clear hf2))
    have f0 := HI3.out.f0
    have f1 := HI3.out.f1
    have g0 := HI3.out.g0
    have g1 := HI3.out.g1
    have k0 := HI3.out.h0
    have k1 := HI3.out.h1
    go_wp2
    go_ret
    exact ⟨rfl, HI3.out.below⟩

namespace factOrder
theorem own : ownKnob Try.prog.godebug = none := by kernel_rfl

set_option maxRecDepth 100000 in
theorem contract (H : Type) (enc : TypeId × Value → H) (W : World) (base : Nat) (args : Array Value) (ds gs : List (DataW H)) (before : List MemPlace)
    (hval : ∀ (j : Nat) t v, Try.f12.params[j]? = some t → args[j]? = some v → Value.okWide Try.prog W .any base t v)
    (hW : DataW.Whole enc Try.prog Try.f12.params.toList Rows.factOrderSpec.vars false W args.toList ds gs before) (hk : Rows.uptoSmall H (ds ++ gs) = true) :
    Calls Try.prog 12 args W fun e W' => ∃ v, e = .returned v ∧ Rows.factOrderSpec.post enc Try.prog Try.f12 false true false false W args v W' := by
  have hW' := hW
  obtain ⟨p, q, hA0, hV, rfl, hfz, hnd⟩ := hW
  have hA : DataW.TrodAll enc Try.prog W 0 (fun _ => true) true Try.f12.params.toList args.toList ds p := hA0
  rw [Try.params12] at hA hval
  obtain ⟨v0, v1, v2, d0, d1, d2, p0, p1, p2, rfl, rfl, rfl, h0, h1, h2⟩ := trodAll_three hA
  obtain ⟨rfl, rfl⟩ := trodVars_none hV
  obtain ⟨f, av, rfl, ra, sa⟩ := openFact.factArg Try.underlying57 (hval 0 57 v0 rfl rfl) h0
  obtain ⟨g, bv, rfl, rb, sb⟩ := openFact.factArg Try.underlying57 (hval 1 57 v1 rfl rfl) h1
  obtain ⟨k, cv, rfl, rc, sc⟩ := openFact.factArg Try.underlying57 (hval 2 57 v2 rfl rfl) h2
  rw [List.append_nil] at hk
  have hb : Rows.uptoBulkAll [d0, d1, d2] ≤ 1048576 := of_decide_eq_true hk
  simp only [Rows.uptoBulkAll] at hb
  have l1 := sizeL_le openStr.one f.args
  have l2 := sizeL_le openStr.one g.args
  simp only [sizeFact] at sa sb
  refine (factOrderCalls f g k av bv cv W ra rb rc (by omega) (by omega)).mono fun e W' ⟨he, hb'⟩ => ?_
  subst he
  exact ⟨_, rfl, law_post (tb := 4) hW' rfl rfl (by kernel_rfl) Try.underlying4 (by kernel_rfl) (by kernel_rfl) hb'⟩

set_option maxRecDepth 100000 in
theorem lifted (os : Os) (started : os.Started) (H : Type) (enc : TypeId × Value → H) (F : Stop.Interp) :
    ReturnsInHanded {} Try.checked os 12 .any ((Rows.OpenSpec.upto Rows.factOrderSpec).pre6 enc Try.prog Try.f12 Rows.factOrderUptoRow.domain false) (((Rows.OpenSpec.upto Rows.factOrderSpec).at F).post enc Try.prog Try.f12 false true false false) := by
  refine returnsInHanded_of_cond (C := Try.checked) (s := Rows.OpenSpec.upto Rows.factOrderSpec) (k := Rows.uptoSmall) rfl own started (by kernel_rfl) Try.func12
    (OpenSpec.witness (enc := enc) (C := Try.checked) (s := Rows.OpenSpec.upto Rows.factOrderSpec) (k := Rows.uptoSmall) rfl false ⟨#[], #[.agg #[.string .empty, .slice none 0 0], .agg #[.string .empty, .slice none 0 0], .agg #[.string .empty, .slice none 0 0]], []⟩ 8 (by kernel_rfl) (by kernel_rfl) (by kernel_rfl)
      (x := ([.agg [.lit (.string []), .nil], .agg [.lit (.string []), .nil], .agg [.lit (.string []), .nil]], [], [])) (by kernel_rfl) rfl (by kernel_rfl)) ?_
  intro W base args ds gs before hval hW _ hk _
  exact contract H enc W base args ds gs before hval hW hk

theorem proved : Rows.FactOrderUptoSaid :=
  OpenClaim.holds_of_cond 12 Try.f12 rfl rfl rfl rfl rfl rfl rfl ⟨rfl, rfl, rfl, rfl, rfl⟩ rfl rfl rfl rfl rfl (by kernel_rfl) Try.func12 (by kernel_rfl)
    (of_decide_eq_true (by kernel_rfl)) (by unfold Func.isWrapper; first | (rw [if_pos (by decide +kernel)]; kernel_rfl) | (rw [if_neg (by decide +kernel)]; exact ⟨rfl, rfl⟩))
    (fun os started H enc _ F => lifted os started H enc F)
end factOrder
end Go.Proofs.Ytgdokncccldgiaa
