/-
  THE WALKS OF slices.BinarySearchFunc at facts and of fact.In: of facts that rise: whether one is there.
-/
import Derived.Test.YtmnpneandkiblaaCmp
import Derived.Test.YtmnpneandkiblaaFactP
import Derived.Test.YtmnpneandkiblaaOwn
import Derived.Deep.QuietTactic
import Derived.BigQuiet
namespace Go.Proofs.Ytmnpneandkiblaa
open Go.RowKit


attribute [local go_sem ↓] Go.wp_at_zero Go.wp_at_succ
set_option maxRecDepth 100000 in
set_option maxHeartbeats 2000000 in
theorem searchFact {S T : Nat → Prop} (v : Value) (l : List PFact) (f : PFact) (av : Value) (w : World) (h : RdFacts S w v l) (hf : RdStrs T w av f.args) (hs : Rising l)
    (n1 : l.length ≤ 1073741824) (n2 : ∀ x ∈ l, x.args.length ≤ 1073741824) :
    Calls Try.prog 35 #[v, .agg #[.string f.name, av], .func (.func 36) #[] #[]] w fun e w' => (∃ i : Int, e = .returned (.tuple #[.int .i64 i, .bool (memF f l)])) ∧ Fresh w w' := by
  obtain ⟨a, c, rfl, -, -, -⟩ := id h.form
  obtain ⟨fa, fc, rfl, -, -, -⟩ := id hf.form
  have H := Lib.hid h
  have HF := Lib.hid hf
  have N2 := Lib.hid n2
  have HS := Lib.hid hs
  clear h hf n2 hs
  have hW : Hid (Agree (fun _ => True) w (w.alloc (.cells #[.string f.name, .slice fa f.args.length fc] 41))) := (Agree.refl _ _).alloc _
  have hc0 : (w.alloc (.cells #[.string f.name, .slice fa f.args.length fc] 41)).cell? ⟨w.heap.size, 0, none⟩ = some (.string f.name) := by simp
  have hc1 : (w.alloc (.cells #[.string f.name, .slice fa f.args.length fc] 41)).cell? ⟨w.heap.size, 1, none⟩ = some (.slice fa f.args.length fc) := by simp
  have hw0 : Hid (Fresh w (w.alloc (.cells #[.string f.name, .slice fa f.args.length fc] 41))) := (Fresh.refl _).alloc _
  have hcs : w.heap.size < (w.alloc (.cells #[.string f.name, .slice fa f.args.length fc] 41)).heap.size := by simp
  go_enter Try.func35, Try.ntmps35
  go_wp2
  generalize w.alloc (.cells #[.string f.name, .slice fa f.args.length fc] 41) = w0 at *
  go_loopw [9, 10, 11] (fun ui uj _ wr => ∃ i j : Nat, i ≤ j ∧ j ≤ l.length ∧ ui = .int .i64 i ∧ uj = .int .i64 j ∧ Hid (∀ a x, a < i → l[a]? = some x → cmpFact x f < 0) ∧ Hid (∀ a x, j ≤ a → l[a]? = some x → 0 ≤ cmpFact x f) ∧ Fresh w0 wr)
    (fun ui uj _ _ => (intOf uj - intOf ui).toNat)
  case atStart => exact ⟨0, l.length, Nat.zero_le _, Nat.le_refl _, rfl, rfl, fun a x h => by omega, fun a x h hx => by have := (List.getElem?_eq_some_iff.1 hx).1; omega, Fresh.refl _⟩
  case round =>
    obtain ⟨i, j, hij, hj, rfl, rfl, hlo, hhi, hfr⟩ := hrel
    have hwr : Hid (Agree (fun _ => True) w wr) := hW.out.trans (Below.agree hfr.below)
    have hd0 := (cell_below hfr.below hcs 0).trans hc0
    have hd1 := (cell_below hfr.below hcs 1).trans hc1
    have hds : w.heap.size < wr.heap.size := Nat.lt_of_lt_of_le hcs hfr.below.size
    have HFR := Lib.hid hfr
    clear hfr hc0 hc1 hcs hW
    by_cases hlt : i < j
    · obtain ⟨m, hm⟩ : ∃ m : Nat, ((i : Int) + j) / 2 = m := ⟨(i + j) / 2, by omega⟩
      have hm1 : i ≤ m := by omega
      have hm2 : m < j := by omega
      obtain ⟨x, hx⟩ : ∃ x, l[m]? = some x := ⟨_, List.getElem?_eq_getElem (by omega)⟩
      have hn2 : x.args.length ≤ 1073741824 := N2.out x (List.mem_of_getElem? hx)
      obtain ⟨b1, o1, xv, rfl, -, hb1, hx0, hx1, hxv⟩ := RdFacts.at ((H.out.more RFact.steady (fun _ _ _ => trivial)).agree RFact.steady hwr.out) hx
      obtain ⟨xa, xc, rfl, -, -, -⟩ := id hxv.form
      have K := Lib.hid (fun W (ha : Agree (fun _ => True) wr W) => compareFact x f (.slice xa x.args.length xc) (.slice fa f.args.length fc) W (hxv.agree RStr.steady ha) ((HF.out.more RStr.steady (fun _ _ _ => trivial)).agree RStr.steady (hwr.out.trans ha)) hn2)
      obtain ⟨q, hq⟩ : ∃ q, cmpFact x f = q := ⟨_, rfl⟩
      rw [hq] at K
      have HX := Lib.hid hx
      have HQ := Lib.hid hq
      have i1 : (0 : Int) ≤ (m : Int) := by omega
      have i2 : (m : Int) < (l.length : Int) := by omega
      clear hxv hx hq hwr
      by_cases hz : q < 0
      · go_wp2_with fail
        go_region_held3 (fun w' => w'.cell? ⟨b1, o1 + m * 2, none⟩ = some (.string x.name) ∧ w'.cell? ⟨b1, o1 + m * 2 + 1, none⟩ = some (.slice xa x.args.length xc) ∧
            w'.cell? ⟨w.heap.size, 0, none⟩ = some (.string f.name) ∧ w'.cell? ⟨w.heap.size, 1, none⟩ = some (.slice fa f.args.length fc))
          (first | (refine ⟨?_, ?_, ?_, ?_⟩ <;> (first | (rw [hk2 _ hb1]; assumption) | (rw [hk2 _ hds]; assumption))) | go_keep)
          (first
            | (go_at_call 36; refine (K.out _ (Agree.refl _ _).drew).mono ?_; rintro e w1 ⟨rfl, hf1⟩; have hk2 : ∀ c, c < wr.heap.size → ∀ off, w1.cell? ⟨c, off, none⟩ = wr.cell? ⟨c, off, none⟩ := fun c hc off => cell_below (w := wr.drew) hf1.below hc off))
        have HF2 : Hid (Fresh w0 w1) := (HFR.out.drew).trans hf1
        clear hf1 hk2 hd0 hd1 hx0 hx1
        go_wp2
        go_roundw
        case rel =>
          refine ⟨m + 1, j, by omega, hj, by go_num, rfl, ?_, hhi, HF2.out⟩
          intro a y ha hy
          by_cases e : a = m
          · subst e
            rw [HX.out] at hy
            injection hy with hy
            rw [← hy, HQ.out]; exact hz
          · have h1 : ltF y x = true := by
              have := HS.out
              obtain ⟨_, rfl⟩ := List.getElem?_eq_some_iff.1 hy
              obtain ⟨_, rfl⟩ := List.getElem?_eq_some_iff.1 HX.out
              exact List.pairwise_iff_getElem.1 this a m _ _ (by omega)
            have h2 : cmpFact y x < 0 := by simpa [ltF] using h1
            exact cmpFact3.trans _ _ _ h2 (by rw [HQ.out]; exact hz)
        case measure => simp [intOf]; omega
      · go_wp2_with fail
        go_region_held3 (fun w' => w'.cell? ⟨b1, o1 + m * 2, none⟩ = some (.string x.name) ∧ w'.cell? ⟨b1, o1 + m * 2 + 1, none⟩ = some (.slice xa x.args.length xc) ∧
            w'.cell? ⟨w.heap.size, 0, none⟩ = some (.string f.name) ∧ w'.cell? ⟨w.heap.size, 1, none⟩ = some (.slice fa f.args.length fc))
          (first | (refine ⟨?_, ?_, ?_, ?_⟩ <;> (first | (rw [hk2 _ hb1]; assumption) | (rw [hk2 _ hds]; assumption))) | go_keep)
          (first
            | (go_at_call 36; refine (K.out _ (Agree.refl _ _).drew).mono ?_; rintro e w1 ⟨rfl, hf1⟩; have hk2 : ∀ c, c < wr.heap.size → ∀ off, w1.cell? ⟨c, off, none⟩ = wr.cell? ⟨c, off, none⟩ := fun c hc off => cell_below (w := wr.drew) hf1.below hc off))
        have HF2 : Hid (Fresh w0 w1) := (HFR.out.drew).trans hf1
        clear hf1 hk2 hd0 hd1 hx0 hx1
        go_wp2
        go_roundw
        case rel =>
          refine ⟨i, m, by omega, by omega, rfl, rfl, hlo, ?_, HF2.out⟩
          intro a y ha hy
          by_cases e : a = m
          · subst e
            rw [HX.out] at hy
            injection hy with hy
            rw [← hy, HQ.out]; omega
          · have h1 : ltF x y = true := by
              have := HS.out
              obtain ⟨_, rfl⟩ := List.getElem?_eq_some_iff.1 hy
              obtain ⟨_, rfl⟩ := List.getElem?_eq_some_iff.1 HX.out
              exact List.pairwise_iff_getElem.1 this m a _ _ (by omega)
            have h2 : cmpFact x y < 0 := by simpa [ltF] using h1
            refine Int.not_lt.1 fun h3 => ?_
            have := cmpFact3.trans _ _ _ h2 h3
            rw [HQ.out] at this
            omega
        case measure => simp [intOf]; omega
    · obtain rfl : i = j := by omega
      by_cases hin : i < l.length
      · obtain ⟨x, hx⟩ : ∃ x, l[i]? = some x := ⟨_, List.getElem?_eq_getElem (by omega)⟩
        have hn2 : x.args.length ≤ 1073741824 := N2.out x (List.mem_of_getElem? hx)
        obtain ⟨b1, o1, xv, rfl, -, hb1, hx0, hx1, hxv⟩ := RdFacts.at ((H.out.more RFact.steady (fun _ _ _ => trivial)).agree RFact.steady hwr.out) hx
        obtain ⟨xa, xc, rfl, -, -, -⟩ := id hxv.form
        have K := Lib.hid (fun W (ha : Agree (fun _ => True) wr W) => compareFact x f (.slice xa x.args.length xc) (.slice fa f.args.length fc) W (hxv.agree RStr.steady ha) ((HF.out.more RStr.steady (fun _ _ _ => trivial)).agree RStr.steady (hwr.out.trans ha)) hn2)
        have hmem : memF f l = (cmpFact x f == 0) := by
          rw [Bool.eq_iff_iff, memF_iff, beq_iff_eq, cmpFact3.zero]
          constructor
          · intro hfm
            obtain ⟨p, hp⟩ := List.mem_iff_getElem?.1 hfm
            by_cases h1 : p < i
            · have := hlo.out p f h1 hp; rw [cmpFact3.self] at this; omega
            · by_cases h2 : p = i
              · subst h2; rw [hx] at hp; exact Option.some.inj hp
              · have h3 : ltF x f = true := by
                  have := HS.out
                  obtain ⟨_, rfl⟩ := List.getElem?_eq_some_iff.1 hp
                  obtain ⟨_, rfl⟩ := List.getElem?_eq_some_iff.1 hx
                  exact List.pairwise_iff_getElem.1 this i p _ _ (by omega)
                have h4 : cmpFact x f < 0 := by simpa [ltF] using h3
                have := hhi.out i x (Nat.le_refl _) hx
                omega
          · intro e; subst e; exact List.mem_of_getElem? hx
        obtain ⟨q, hq⟩ : ∃ q, cmpFact x f = q := ⟨_, rfl⟩
        rw [hq] at K hmem
        have HM := Lib.hid hmem
        have i1 : (0 : Int) ≤ (i : Int) := by omega
        have i2 : (i : Int) < (l.length : Int) := by omega
        have i3 : decide ((i : Int) < (l.length : Int)) = true := decide_eq_true i2
        have i4 : decide (i < l.length) = true := decide_eq_true hin
        clear hxv hx hq hwr hmem
        go_wp2_with fail
        go_region_held3 (fun w' => w'.cell? ⟨b1, o1 + i * 2, none⟩ = some (.string x.name) ∧ w'.cell? ⟨b1, o1 + i * 2 + 1, none⟩ = some (.slice xa x.args.length xc) ∧
            w'.cell? ⟨w.heap.size, 0, none⟩ = some (.string f.name) ∧ w'.cell? ⟨w.heap.size, 1, none⟩ = some (.slice fa f.args.length fc))
          (first | (refine ⟨?_, ?_, ?_, ?_⟩ <;> (first | (rw [hk2 _ hb1]; assumption) | (rw [hk2 _ hds]; assumption))) | go_keep)
          (first
            | (go_at_call 36; refine (K.out _ (Agree.refl _ _).drew).mono ?_; rintro e w1 ⟨rfl, hf1⟩; have hk2 : ∀ c, c < wr.heap.size → ∀ off, w1.cell? ⟨c, off, none⟩ = wr.cell? ⟨c, off, none⟩ := fun c hc off => cell_below (w := wr.drew) hf1.below hc off))
        have HF2 : Hid (Fresh w0 w1) := (HFR.out.drew).trans hf1
        clear hf1 hk2 hd0 hd1 hx0 hx1
        go_wp2
        go_ret2
        exact ⟨⟨i, by rw [HM.out]; rfl⟩, (hw0.out).trans HF2.out⟩
      · have hmem : memF f l = false := by
          rw [← Bool.not_eq_true, memF_iff]
          intro hfm
          obtain ⟨p, hp⟩ := List.mem_iff_getElem?.1 hfm
          have := hlo.out p f (by have := (List.getElem?_eq_some_iff.1 hp).1; omega) hp
          rw [cmpFact3.self] at this; omega
        have HM := Lib.hid hmem
        clear hmem
        have i3 : decide ((i : Int) < (l.length : Int)) = false := decide_eq_false (by omega)
        have i4 : decide (i < l.length) = false := decide_eq_false hin
        go_wp2_with fail
        go_quiet (fail)
        go_wp2
        go_ret2
        exact ⟨⟨i, by rw [HM.out]; rfl⟩, (hw0.out).trans (HFR.out.trans ⟨nq, #[], by simp⟩)⟩

theorem inFact {S T : Nat → Prop} (v : Value) (l : List PFact) (f : PFact) (av : Value) (w : World) (h : RdFacts S w v l) (hf : RdStrs T w av f.args) (hs : Rising l)
    (n1 : l.length ≤ 1073741824) (n2 : ∀ x ∈ l, x.args.length ≤ 1073741824) :
    Calls Try.prog 18 #[v, .agg #[.string f.name, av]] w fun e w' => e = .returned (.bool (memF f l)) ∧ Fresh w w' := by
  obtain ⟨a, c, rfl, -, -, -⟩ := id h.form
  obtain ⟨fa, fc, rfl, -, -, -⟩ := id hf.form
  have K := Lib.hid (fun W (ha : Agree (fun _ => True) w W) => searchFact (.slice a l.length c) l f (.slice fa f.args.length fc) W ((h.more RFact.steady (fun _ _ _ => trivial)).agree RFact.steady ha) ((hf.more RStr.steady (fun _ _ _ => trivial)).agree RStr.steady ha) hs n1 n2)
  clear h hf hs n2
  go_enter Try.func18, Try.ntmps18
  go_wp2_with (go_at_call 35; refine (K.out _ ((Agree.refl _ _).alloc _)).mono ?_; rintro e w1 ⟨⟨i, rfl⟩, hf1⟩)
  go_ret
  exact ⟨rfl, ((Fresh.refl _).alloc _).trans hf1⟩
end Go.Proofs.Ytmnpneandkiblaa
