/-
  THE WALKS OF cororef1.Same and cororef1.In: are two lists of facts the same? Is a fact in a list?
-/
import Derived.Test.YtgdokncccldgiaaRef1Less
namespace Go.Proofs.Ytgdokncccldgiaa
open Go.RowKit

theorem eq_of_get {a b : List PFact} (hl : a.length = b.length) (h : ∀ i x y, i < a.length → a[i]? = some x → b[i]? = some y → x = y) : a = b := by
  apply List.ext_getElem hl
  intro i h1 h2
  exact h i _ _ h1 (List.getElem?_eq_getElem h1) (List.getElem?_eq_getElem h2)

attribute [local go_sem ↓] Go.wp_at_zero Go.wp_at_succ
set_option maxRecDepth 100000 in
set_option maxHeartbeats 2000000 in
theorem sameRef {S T : Nat → Prop} (va vb : Value) (a b : List PFact) (w : World) (ha : RdFacts S w va a) (hb : RdFacts T w vb b) (n1 : a.length ≤ 1073741824) (n2 : ∀ x ∈ a, x.args.length ≤ 1073741824) (n3 : ∀ x ∈ b, x.args.length ≤ 1073741824) :
    Calls Try.prog 45 #[va, vb] w fun e w' => e = .returned (.bool (decide (a = b))) ∧ Fresh w w' := by
  obtain ⟨aa, ac, rfl, -, -, -⟩ := id ha.form
  obtain ⟨ba, bc, rfl, -, -, -⟩ := id hb.form
  by_cases hl : a.length = b.length
  · have HN := Lib.hid hl
    have HA := Lib.hid (fun W (h : Agree (fun _ => True) w W) i x (hx : a[i]? = some x) => RdFacts.at ((ha.more RFact.steady (S' := fun _ => True) (fun _ _ _ => trivial)).agree RFact.steady h) hx)
    have HB := Lib.hid (fun W (h : Agree (fun _ => True) w W) i x (hx : b[i]? = some x) => RdFacts.at ((hb.more RFact.steady (S' := fun _ => True) (fun _ _ _ => trivial)).agree RFact.steady h) hx)
    have N2 := Lib.hid n2
    have N3 := Lib.hid n3
    rw [← hl]
    clear ha hb hl n2 n3
    go_enter Try.func45, Try.ntmps45
    go_wp2
    go_loopw [13] (fun i wr => ∃ k : Nat, k ≤ a.length ∧ i = .int .i64 k ∧ Hid (∀ i x y, i < k → a[i]? = some x → b[i]? = some y → x = y) ∧ Hid (Fresh w wr)) (fun i _ => a.length - (intOf i).toNat)
    case atStart => exact ⟨0, Nat.zero_le _, rfl, Lib.hid (fun i x y h => by omega), Fresh.refl _⟩
    case round =>
      obtain ⟨k, hk, rfl, HR, HW⟩ := hrel
      by_cases hlt : k < a.length
      · obtain ⟨x, hx⟩ : ∃ x, a[k]? = some x := ⟨_, List.getElem?_eq_getElem hlt⟩
        obtain ⟨y, hy⟩ : ∃ y, b[k]? = some y := ⟨_, List.getElem?_eq_getElem (by rw [← HN.out]; exact hlt)⟩
        have hag : Agree (fun _ => True) w wr := Below.agree HW.out.below
        obtain ⟨b1, o1, av, rfl, -, hb1, c0, c1, hav⟩ := HA.out wr hag k x hx
        obtain ⟨b2, o2, bv, rfl, -, hb2, d0, d1, hbv⟩ := HB.out wr hag k y hy
        obtain ⟨xa, xc, rfl, -, -, -⟩ := id hav.form
        obtain ⟨ya, yc, rfl, -, -, -⟩ := id hbv.form
        have nx : x.args.length ≤ 1073741824 := N2.out x (List.mem_of_getElem? hx)
        have ny : y.args.length ≤ 1073741824 := N3.out y (List.mem_of_getElem? hy)
        have K := Lib.hid (fun W (h : Agree (fun _ => True) wr W) => equalRef x y _ _ W (hav.agree RStr.steady h) (hbv.agree RStr.steady h) nx ny)
        have HX := Lib.hid hx
        have HY := Lib.hid hy
        clear hx hy hag hav hbv nx ny
        have i1 : (0 : Int) ≤ (k : Int) := by omega
        have i2 : (k : Int) < (a.length : Int) := by omega
        cases hxy : decide (x = y)
        · rw [hxy] at K
          have HXY := Lib.hid (show a ≠ b from fun e => by
            have h1 := HX.out
            rw [e, HY.out] at h1
            exact of_decide_eq_false hxy (Option.some.inj h1).symm)
          clear hxy
          go_wp2_with fail
          go_region_held3 (fun w' => w'.cell? ⟨b1, o1 + k * 2, none⟩ = some (.string x.name) ∧ w'.cell? ⟨b1, o1 + k * 2 + 1, none⟩ = some (.slice xa x.args.length xc) ∧
              w'.cell? ⟨b2, o2 + k * 2, none⟩ = some (.string y.name) ∧ w'.cell? ⟨b2, o2 + k * 2 + 1, none⟩ = some (.slice ya y.args.length yc))
            (first | (refine ⟨?_, ?_, ?_, ?_⟩ <;> (first | (rw [hk2 _ hb1]; assumption) | (rw [hk2 _ hb2]; assumption))) | go_keep)
            (first
              | (go_at_call 64; refine (K.out _ (Agree.refl _ _).drew).mono ?_; rintro e w1 ⟨rfl, hf1⟩; have hk2 : ∀ c, c < wr.heap.size → ∀ off, w1.cell? ⟨c, off, none⟩ = wr.cell? ⟨c, off, none⟩ := fun c hc off => cell_below (w := wr.drew) hf1.below hc off))
          have HW2 := Lib.hid (HW.out.drew.trans hf1)
          clear hf1 hk2 c0 c1 d0 d1
          go_wp2
          go_ret
          exact ⟨ret_bool (decide_eq_false HXY.out).symm, HW2.out⟩
        · rw [hxy] at K
          have HXY := Lib.hid (of_decide_eq_true hxy)
          clear hxy
          go_wp2_with fail
          go_region_held3 (fun w' => w'.cell? ⟨b1, o1 + k * 2, none⟩ = some (.string x.name) ∧ w'.cell? ⟨b1, o1 + k * 2 + 1, none⟩ = some (.slice xa x.args.length xc) ∧
              w'.cell? ⟨b2, o2 + k * 2, none⟩ = some (.string y.name) ∧ w'.cell? ⟨b2, o2 + k * 2 + 1, none⟩ = some (.slice ya y.args.length yc))
            (first | (refine ⟨?_, ?_, ?_, ?_⟩ <;> (first | (rw [hk2 _ hb1]; assumption) | (rw [hk2 _ hb2]; assumption))) | go_keep)
            (first
              | (go_at_call 64; refine (K.out _ (Agree.refl _ _).drew).mono ?_; rintro e w1 ⟨rfl, hf1⟩; have hk2 : ∀ c, c < wr.heap.size → ∀ off, w1.cell? ⟨c, off, none⟩ = wr.cell? ⟨c, off, none⟩ := fun c hc off => cell_below (w := wr.drew) hf1.below hc off))
          have HW2 := Lib.hid (HW.out.drew.trans hf1)
          clear hf1 hk2 c0 c1 d0 d1
          go_wp2
          go_roundw
          case rel =>
            refine ⟨k + 1, by omega, by go_num, Lib.hid (fun i p q hi hp hq => ?_), HW2.out⟩
            by_cases e : i = k
            · subst e
              rw [HX.out] at hp
              rw [HY.out] at hq
              rw [← Option.some.inj hp, ← Option.some.inj hq]
              exact HXY.out
            · exact HR.out i p q (by omega) hp hq
          case measure => simp [intOf]; omega
      · have HE := Lib.hid (show a = b from eq_of_get HN.out (fun i x y hi => HR.out i x y (by omega)))
        go_wp2
        go_ret
        exact ⟨ret_bool (decide_eq_true HE.out).symm, HW.out⟩
  · have HE := Lib.hid (show a ≠ b from fun e => hl (by rw [e]))
    have i2 : ¬ ((a.length : Int) = (b.length : Int)) := by omega
    have i1 : ((a.length : Int) == (b.length : Int)) = false := by simp; omega
    clear ha hb
    go_enter Try.func45, Try.ntmps45
    go_wp2
    go_ret
    exact ⟨ret_bool (decide_eq_false HE.out).symm, Fresh.refl _⟩

theorem memF_drop {f x : PFact} {l : List PFact} {k : Nat} (h : l[k]? = some x) : memF f (l.drop k) = (decide (x = f) || memF f (l.drop (k + 1))) := by
  rw [Bool.eq_iff_iff]
  simp only [Bool.or_eq_true, decide_eq_true_eq, memF_iff]
  rw [drop_cons h, List.mem_cons]
  constructor
  · rintro (h | h)
    · exact .inl h.symm
    · exact .inr h
  · rintro (h | h)
    · exact .inl h.symm
    · exact .inr h

set_option maxRecDepth 100000 in
set_option maxHeartbeats 2000000 in
theorem inRef {S T : Nat → Prop} (v : Value) (l : List PFact) (f : PFact) (av : Value) (w : World) (h : RdFacts S w v l) (hf : RdStrs T w av f.args) (n1 : l.length ≤ 1073741824) (n2 : ∀ x ∈ l, x.args.length ≤ 1073741824) (n3 : f.args.length ≤ 1073741824) :
    Calls Try.prog 54 #[v, .agg #[.string f.name, av]] w fun e w' => e = .returned (.bool (memF f l)) ∧ Fresh w w' := by
  obtain ⟨a, c, rfl, -, -, -⟩ := id h.form
  obtain ⟨fa, fc, rfl, -, -, -⟩ := id hf.form
  have H := Lib.hid (fun W (ha : Agree (fun _ => True) w W) i x (hx : l[i]? = some x) => RdFacts.at ((h.more RFact.steady (S' := fun _ => True) (fun _ _ _ => trivial)).agree RFact.steady ha) hx)
  have HF := Lib.hid (fun W (ha : Agree (fun _ => True) w W) => (hf.more RStr.steady (S' := fun _ => True) (fun _ _ _ => trivial)).agree RStr.steady ha)
  have N2 := Lib.hid n2
  clear h hf n2
  have c0 : (w.alloc (.cells #[.string f.name, .slice fa f.args.length fc] 57)).cell? ⟨w.heap.size, 0, none⟩ = some (.string f.name) := by simp
  have c1 : (w.alloc (.cells #[.string f.name, .slice fa f.args.length fc] 57)).cell? ⟨w.heap.size, 1, none⟩ = some (.slice fa f.args.length fc) := by simp
  have hsz : w.heap.size < (w.alloc (.cells #[.string f.name, .slice fa f.args.length fc] 57)).heap.size := by simp
  have HF0 := Lib.hid ((Fresh.refl w).alloc (.cells #[.string f.name, .slice fa f.args.length fc] 57))
  go_enter Try.func54, Try.ntmps54
  go_wp2
  generalize w.alloc (.cells #[.string f.name, .slice fa f.args.length fc] 57) = w0 at *
  go_loopw [9] (fun i wr => ∃ k : Nat, k ≤ l.length ∧ i = .int .i64 k ∧ Hid (memF f l = memF f (l.drop k)) ∧ Hid (Fresh w0 wr)) (fun i _ => l.length - (intOf i).toNat)
  case atStart => exact ⟨0, Nat.zero_le _, rfl, Lib.hid rfl, Fresh.refl _⟩
  case round =>
    obtain ⟨k, hk, rfl, HR, HW⟩ := hrel
    have d0 := (cell_below HW.out.below hsz 0).trans c0
    have d1 := (cell_below HW.out.below hsz 1).trans c1
    have hsr : w.heap.size < wr.heap.size := Nat.lt_of_lt_of_le hsz HW.out.below.size
    clear c0 c1
    by_cases hlt : k < l.length
    · obtain ⟨x, hx⟩ : ∃ x, l[k]? = some x := ⟨_, List.getElem?_eq_getElem hlt⟩
      have hag : Agree (fun _ => True) w wr := Below.agree (HF0.out.trans HW.out).below
      obtain ⟨b1, o1, av, rfl, -, hb1, e0, e1, hav⟩ := H.out wr hag k x hx
      obtain ⟨xa, xc, rfl, -, -, -⟩ := id hav.form
      have nx : x.args.length ≤ 1073741824 := N2.out x (List.mem_of_getElem? hx)
      have K := Lib.hid (equalRef x f (.slice xa x.args.length xc) (.slice fa f.args.length fc) (wr.alloc (.cells #[.string x.name, .slice xa x.args.length xc] 57)) (hav.agree RStr.steady ((Agree.refl _ _).alloc _)) ((HF.out wr hag).agree RStr.steady ((Agree.refl _ _).alloc _)) nx n3)
      have HM := Lib.hid (memF_drop (f := f) hx)
      have m0 := (World.cell?_of_block (a := ⟨w.heap.size, 0, none⟩) (Below.heap_alloc wr (.cells #[.string x.name, .slice xa x.args.length xc] 57) w.heap.size hsr)).trans d0
      have m1 := (World.cell?_of_block (a := ⟨w.heap.size, 1, none⟩) (Below.heap_alloc wr (.cells #[.string x.name, .slice xa x.args.length xc] 57) w.heap.size hsr)).trans d1
      clear hx hag hav nx
      cases hxy : decide (x = f)
      · rw [hxy] at K HM
        clear hxy
        go_wp2_with (go_at_call 64; refine (K.out).mono ?_; rintro e w1 ⟨rfl, hf1⟩; have HW2 := Lib.hid ((HW.out.alloc _).trans hf1); clear hf1)
        go_roundw
        case rel => exact ⟨k + 1, by omega, by go_num, Lib.hid (by rw [HR.out, HM.out]; simp), HW2.out⟩
        case measure => simp [intOf]; omega
      · rw [hxy] at K HM
        clear hxy
        go_wp2_with (go_at_call 64; refine (K.out).mono ?_; rintro e w1 ⟨rfl, hf1⟩; have HW2 := Lib.hid ((HW.out.alloc _).trans hf1); clear hf1)
        go_ret
        exact ⟨ret_bool (by rw [HR.out, HM.out]; simp), HF0.out.trans HW2.out⟩
    · have HE := Lib.hid (show memF f l = false by rw [HR.out, drop_end (by omega : l.length ≤ k)]; rfl)
      go_wp2
      go_ret
      exact ⟨ret_bool HE.out.symm, HF0.out.trans HW.out⟩
end Go.Proofs.Ytgdokncccldgiaa
