/-
  THE TEXTS Cmp, In, SetW, MatchL, MatchN, one behind the other.
-/
import Derived.Test.YtgoaiohkodbadaaGreatPk1
import Derived.Test.YtgoaiohkodbadaaGreatPk3
import Derived.Test.YtgoaiohkodbadaaGreatPk4
import Derived.Deep.QuietTactic
import Derived.BigQuiet
/-
  THE WALKS OF cmp.Compare, slices.Compare, cmp.Or and fact.Compare: each answers its plain function.
-/
namespace Go.Proofs.YtgoaiohkodbadaaGreat
open Go.RowKit

theorem isNaNStr (x : Str) (w : World) : Calls Tryz.prog 181 #[.string x] w fun e w' => e = .returned (.bool false) ∧ w = w' := by
  go_enter Tryz.func181, Tryz.ntmps181
  go_wp2
  go_ret
  exact ⟨by simp, rfl⟩
theorem isNaNInt (x : Int) (w : World) : Calls Tryz.prog 182 #[.int .i64 x] w fun e w' => e = .returned (.bool false) ∧ w = w' := by
  go_enter Tryz.func182, Tryz.ntmps182
  go_wp2
  go_ret
  exact ⟨by simp, rfl⟩

set_option maxHeartbeats 400000 in
theorem compareStr (x y : Str) (w : World) : Calls Tryz.prog 135 #[.string x, .string y] w fun e w' => e = .returned (.int .i64 (cmpStr x y)) ∧ w = w' := by
  by_cases h1 : strLt x y = true
  · have g1 : Op.bytesLess x.toList y.toList = true := h1
    have e : cmpStr x y = -1 := by simp [cmpStr, h1]
    rw [e]
    clear e h1
    go_enter Tryz.func135, Tryz.ntmps135
    go_wp2_with (go_at_call 181; refine (isNaNStr _ _).mono ?_; rintro e w' ⟨rfl, rfl⟩)
    go_ret
    exact ⟨rfl, rfl⟩
  · have g1 : Op.bytesLess x.toList y.toList = false := by simpa [strLt] using h1
    by_cases h2 : strLt y x = true
    · have g2 : (x.toList == y.toList) = false := by
        rw [beq_eq_false_iff_ne]
        intro he
        have := toList_inj he
        subst this
        rw [strLt_irrefl] at h2
        cases h2
      have e : cmpStr x y = 1 := by simp [cmpStr, h1, h2]
      rw [e]
      clear e h1 h2
      go_enter Tryz.func135, Tryz.ntmps135
      go_wp2_with (go_at_call 181; refine (isNaNStr _ _).mono ?_; rintro e w' ⟨rfl, rfl⟩)
      go_ret
      exact ⟨rfl, rfl⟩
    · have he : x = y := strLt_tri (by simpa using h1) (by simpa using h2)
      have g2 : (x.toList == y.toList) = true := by rw [he]; exact beq_self_eq_true _
      have e : cmpStr x y = 0 := by simp [cmpStr, h1, h2]
      rw [e]
      clear e h1 h2 he
      go_enter Tryz.func135, Tryz.ntmps135
      go_wp2_with (go_at_call 181; refine (isNaNStr _ _).mono ?_; rintro e w' ⟨rfl, rfl⟩)
      go_ret
      exact ⟨rfl, rfl⟩

set_option maxHeartbeats 400000 in
theorem compareInt (x y : Int) (w : World) : Calls Tryz.prog 136 #[.int .i64 x, .int .i64 y] w fun e w' => e = .returned (.int .i64 (cmpInt x y)) ∧ w = w' := by
  unfold cmpInt
  by_cases h1 : x < y
  · rw [if_pos h1]
    go_enter Tryz.func136, Tryz.ntmps136
    go_wp2_with (go_at_call 182; refine (isNaNInt _ _).mono ?_; rintro e w' ⟨rfl, rfl⟩)
    go_ret
    exact ⟨rfl, rfl⟩
  · rw [if_neg h1]
    by_cases h2 : y < x
    · rw [if_pos h2]
      go_enter Tryz.func136, Tryz.ntmps136
      go_wp2_with (go_at_call 182; refine (isNaNInt _ _).mono ?_; rintro e w' ⟨rfl, rfl⟩)
      go_ret
      exact ⟨rfl, rfl⟩
    · rw [if_neg h2]
      go_enter Tryz.func136, Tryz.ntmps136
      go_wp2_with (go_at_call 182; refine (isNaNInt _ _).mono ?_; rintro e w' ⟨rfl, rfl⟩)
      go_ret
      exact ⟨rfl, rfl⟩

theorem cmpStrs_drop_cons {x : Str} {l : List Str} {k : Nat} (h : l[k]? = some x) : l.drop k = x :: l.drop (k + 1) := by
  obtain ⟨hk, rfl⟩ := List.getElem?_eq_some_iff.1 h
  exact List.drop_eq_getElem_cons hk

set_option maxHeartbeats 1000000 in
theorem slicesCompare {S T : Nat → Prop} (v1 v2 : Value) (l1 l2 : List Str) (w : World) (h1 : RdStrs S w v1 l1) (h2 : RdStrs T w v2 l2) (n1 : l1.length ≤ 1073741824) :
    Calls Tryz.prog 137 #[v1, v2] w fun e w' => e = .returned (.int .i64 (cmpStrs l1 l2)) ∧ w = w' := by
  obtain ⟨a1, c1, rfl, -, -, -⟩ := h1.form
  obtain ⟨a2, c2, rfl, -, -, -⟩ := h2.form
  have H1 := Lib.hid h1
  have H2 := Lib.hid h2
  clear h1 h2
  go_enter Tryz.func137, Tryz.ntmps137
  go_wp2
  go_loop [11, 5, 6, 7, 8] (fun i _ _ _ _ => ∃ k : Nat, k ≤ l1.length ∧ k ≤ l2.length ∧ i = .int .i64 k ∧ cmpStrs l1 l2 = cmpStrs (l1.drop k) (l2.drop k)) (fun i _ _ _ _ => l1.length - (intOf i).toNat)
  case atStart => exact ⟨0, Nat.zero_le _, Nat.zero_le _, rfl, rfl⟩
  case round =>
    obtain ⟨k, hk, hk2, rfl, hr⟩ := hrel
    have HR := Lib.hid hr
    clear hr
    by_cases hlt : k < l1.length
    · obtain ⟨x, hx⟩ : ∃ x, l1[k]? = some x := ⟨_, List.getElem?_eq_getElem hlt⟩
      obtain ⟨b1, o1, rfl, -, -, hc1⟩ := H1.out.at hx
      have HX := Lib.hid hx
      clear hx
      by_cases hlt2 : k < l2.length
      · obtain ⟨y, hy⟩ : ∃ y, l2[k]? = some y := ⟨_, List.getElem?_eq_getElem hlt2⟩
        obtain ⟨b2, o2, rfl, -, -, hc2⟩ := H2.out.at hy
        have HY := Lib.hid hy
        clear hy
        by_cases hz : cmpStr x y = 0
        · have gz : (cmpStr x y != 0) = false := by simp [hz]
          have HZ := Lib.hid hz
          clear hz
          go_wp2_with (go_at_call 135; refine (compareStr _ _ _).mono ?_; rintro e w' ⟨rfl, rfl⟩)
          go_round
          case rel =>
            refine ⟨k + 1, by omega, by omega, by go_num, ?_⟩
            rw [HR.out, cmpStrs_drop_cons HX.out, cmpStrs_drop_cons HY.out]
            simp [cmpStrs, HZ.out]
          case measure => simp [intOf]; omega
        · have gz : (cmpStr x y != 0) = true := by simp [hz]
          have HZ := Lib.hid hz
          clear hz
          go_wp2_with (go_at_call 135; refine (compareStr _ _ _).mono ?_; rintro e w' ⟨rfl, rfl⟩)
          go_ret
          refine ⟨ret_int ?_, rfl⟩
          rw [HR.out, cmpStrs_drop_cons HX.out, cmpStrs_drop_cons HY.out]
          simp [cmpStrs, HZ.out]
      · go_wp2
        go_ret
        refine ⟨ret_int ?_, rfl⟩
        rw [HR.out, cmpStrs_drop_cons HX.out, List.drop_eq_nil_of_le (by omega : l2.length ≤ k)]
        simp [cmpStrs]
    · by_cases hlt2 : k < l2.length
      · go_wp2
        go_ret
        refine ⟨ret_int ?_, rfl⟩
        rw [HR.out, List.drop_eq_nil_of_le (by omega : l1.length ≤ k)]
        obtain ⟨y, hy⟩ : ∃ y, l2[k]? = some y := ⟨_, List.getElem?_eq_getElem hlt2⟩
        rw [cmpStrs_drop_cons hy]
        simp [cmpStrs]
      · go_wp2
        go_ret
        refine ⟨ret_int ?_, rfl⟩
        rw [HR.out, List.drop_eq_nil_of_le (by omega : l1.length ≤ k), List.drop_eq_nil_of_le (by omega : l2.length ≤ k)]
        simp [cmpStrs]

theorem orInt_drop_cons {x : Int} {l : List Int} {k : Nat} (h : l[k]? = some x) : l.drop k = x :: l.drop (k + 1) := by
  obtain ⟨hk, rfl⟩ := List.getElem?_eq_some_iff.1 h
  exact List.drop_eq_getElem_cons hk

set_option maxHeartbeats 400000 in
theorem cmpOr {S : Nat → Prop} (v : Value) (l : List Int) (w : World) (h : RdInts S w v l) (n1 : l.length ≤ 1073741824) :
    Calls Tryz.prog 134 #[v] w fun e w' => e = .returned (.int .i64 (orInt l)) ∧ w = w' := by
  obtain ⟨a, c, rfl, -, -, -⟩ := h.form
  have H := Lib.hid h
  clear h
  go_enter Tryz.func134, Tryz.ntmps134
  go_wp2
  go_loop [8, 5] (fun i _ => ∃ k : Nat, k ≤ l.length ∧ i = .int .i64 k ∧ orInt l = orInt (l.drop k)) (fun i _ => l.length - (intOf i).toNat)
  case atStart => exact ⟨0, Nat.zero_le _, rfl, rfl⟩
  case round =>
    obtain ⟨k, hk, rfl, hr⟩ := hrel
    have HR := Lib.hid hr
    clear hr
    by_cases hlt : k < l.length
    · obtain ⟨x, hx⟩ : ∃ x, l[k]? = some x := ⟨_, List.getElem?_eq_getElem hlt⟩
      obtain ⟨b, o, rfl, -, -, hc⟩ := H.out.at hx
      have HX := Lib.hid hx
      clear hx
      by_cases hz : x = 0
      · subst hz
        go_wp2
        go_round
        case rel =>
          refine ⟨k + 1, by omega, by go_num, ?_⟩
          rw [HR.out, orInt_drop_cons HX.out]
          simp [orInt]
        case measure => simp [intOf]; omega
      · have gz : (x != 0) = true := by simp [hz]
        have HZ := Lib.hid hz
        clear hz
        go_wp2
        go_ret
        refine ⟨ret_int ?_, rfl⟩
        rw [HR.out, orInt_drop_cons HX.out]
        simp [orInt, HZ.out]
    · go_wp2
      go_ret
      refine ⟨ret_int ?_, rfl⟩
      rw [HR.out, List.drop_eq_nil_of_le (by omega : l.length ≤ k)]
      rfl

theorem cmpOr3 (p q r : Int) (w : World) (b : Nat) (h : w.heap[b]? = some (.cells #[.int .i64 p, .int .i64 q, .int .i64 r] 3 (0, 0))) :
    Calls Tryz.prog 134 #[.slice (some ⟨b, 0, none⟩) 3 3] w fun e w' => e = .returned (.int .i64 (orInt [p, q, r])) ∧ w = w' :=
  cmpOr (S := fun _ => True) _ [p, q, r] w (RdInts.block rfl h trivial (by unfold maxLen; omega)) (by simp)

attribute [local go_sem ↓] Go.wp_at_zero Go.wp_at_succ
set_option maxHeartbeats 2000000 in
theorem compareFact {S T : Nat → Prop} (f g : PFact) (va vb : Value) (w : World) (h1 : RdStrs S w va f.args) (h2 : RdStrs T w vb g.args) (n1 : f.args.length ≤ 1073741824) :
    Calls Tryz.prog 84 #[.agg #[.string f.name, va], .agg #[.string g.name, vb]] w fun e w' => e = .returned (.int .i64 (cmpFact f g)) ∧ Fresh w w' := by
  have K3 : ∀ w', Agree (fun _ => True) w w' → Calls Tryz.prog 137 #[va, vb] w' fun e w'' => e = .returned (.int .i64 (cmpStrs f.args g.args)) ∧ w' = w'' :=
    fun w' ha => slicesCompare va vb f.args g.args w' ((h1.more RStr.steady (fun _ _ _ => trivial)).agree RStr.steady ha) ((h2.more RStr.steady (fun _ _ _ => trivial)).agree RStr.steady ha) n1
  obtain ⟨a1, c1, rfl, -, -, -⟩ := h1.form
  obtain ⟨a2, c2, rfl, -, -, -⟩ := h2.form
  have e3 : cmpFact f g = orInt [cmpStr f.name g.name, cmpInt f.args.length g.args.length, cmpStrs f.args g.args] := rfl
  rw [e3]
  clear e3 h1 h2
  have HK := Lib.hid K3
  clear K3
  generalize cmpStrs f.args g.args = r3 at *
  go_enter Tryz.func84, Tryz.ntmps84
  go_wp2_with fail
  go_region_held3 (fun w' => w'.cell? ⟨w.heap.size, 0, none⟩ = some (.string f.name) ∧ w'.cell? ⟨w.heap.size, 1, none⟩ = some (.slice a1 f.args.length c1) ∧
      w'.cell? ⟨w.heap.size + 1, 0, none⟩ = some (.string g.name) ∧ w'.cell? ⟨w.heap.size + 1, 1, none⟩ = some (.slice a2 g.args.length c2)) (go_keep)
    (first
      | (go_at_call 135; refine (compareStr _ _ _).mono ?_; rintro e w' ⟨rfl, rfl⟩)
      | (go_at_call 136; refine (compareInt _ _ _).mono ?_; rintro e w' ⟨rfl, rfl⟩)
      | (go_at_call 137; refine (HK.out _ ?_).mono ?_; (exact ((Agree.refl _ _).alloc _).alloc _); rintro e w' ⟨rfl, rfl⟩)
      | (go_at_call 134; refine (cmpOr3 (cmpStr f.name g.name) (cmpInt f.args.length g.args.length) r3 _ _ ?_).mono ?_; (exact heap_new_at (by simp)); rintro e w' ⟨rfl, rfl⟩))
  go_wp2
  go_ret
  exact ⟨rfl, ((((Fresh.refl _).alloc _).alloc _).alloc _).drew⟩
end Go.Proofs.YtgoaiohkodbadaaGreat

/-
  THE WALKS OF slices.BinarySearchFunc at facts and of fact.In: of facts that rise: whether one is there.
-/
namespace Go.Proofs.YtgoaiohkodbadaaGreat
open Go.RowKit


attribute [local go_sem ↓] Go.wp_at_zero Go.wp_at_succ
set_option maxRecDepth 100000 in
set_option maxHeartbeats 2000000 in
theorem searchFact {S T : Nat → Prop} (v : Value) (l : List PFact) (f : PFact) (av : Value) (w : World) (h : RdFacts S w v l) (hf : RdStrs T w av f.args) (hs : Rising l)
    (n1 : l.length ≤ 1073741824) (n2 : ∀ x ∈ l, x.args.length ≤ 1073741824) :
    Calls Tryz.prog 83 #[v, .agg #[.string f.name, av], .func (.func 84) #[] #[]] w fun e w' => (∃ i : Int, e = .returned (.tuple #[.int .i64 i, .bool (memF f l)])) ∧ Fresh w w' := by
  obtain ⟨a, c, rfl, -, -, -⟩ := id h.form
  obtain ⟨fa, fc, rfl, -, -, -⟩ := id hf.form
  have H := Lib.hid h
  have HF := Lib.hid hf
  have N2 := Lib.hid n2
  have HS := Lib.hid hs
  clear h hf n2 hs
  have hW : Hid (Agree (fun _ => True) w (w.alloc (.cells #[.string f.name, .slice fa f.args.length fc] 27))) := (Agree.refl _ _).alloc _
  have hc0 : (w.alloc (.cells #[.string f.name, .slice fa f.args.length fc] 27)).cell? ⟨w.heap.size, 0, none⟩ = some (.string f.name) := by simp
  have hc1 : (w.alloc (.cells #[.string f.name, .slice fa f.args.length fc] 27)).cell? ⟨w.heap.size, 1, none⟩ = some (.slice fa f.args.length fc) := by simp
  have hw0 : Hid (Fresh w (w.alloc (.cells #[.string f.name, .slice fa f.args.length fc] 27))) := (Fresh.refl _).alloc _
  have hcs : w.heap.size < (w.alloc (.cells #[.string f.name, .slice fa f.args.length fc] 27)).heap.size := by simp
  go_enter Tryz.func83, Tryz.ntmps83
  go_wp2
  generalize w.alloc (.cells #[.string f.name, .slice fa f.args.length fc] 27) = w0 at *
  go_loopw [9, 10, 11] (fun ui uj _ wr => ∃ i j : Nat, i ≤ j ∧ j ≤ l.length ∧ ui = .int .i64 i ∧ uj = .int .i64 j ∧ Hid (∀ a x, a < i → l[a]? = some x → cmpFact x f < 0) ∧ Hid (∀ a x, j ≤ a → l[a]? = some x → 0 ≤ cmpFact x f) ∧ Fresh w0 wr)
    (fun ui uj _ _ => (intOf uj - intOf ui).toNat)
  case atStart => exact ⟨0, l.length, Nat.zero_le _, Nat.le_refl _, rfl, rfl, fun a x h => by omega, fun a x h hx => by have := (List.getElem?_eq_some_iff.1 hx).1; omega, Fresh.refl _⟩
  case round =>
    obtain ⟨i, j, hij, hj, rfl, rfl, hlo, hhi, hfr⟩ := hrel
    have hwr : Hid (Agree (fun _ => True) w wr) := hW.out.trans (Below.agree hfr.below)
    have hd0 := (cell_below hfr.below hcs 0).trans hc0
    have hd1 := (cell_below hfr.below hcs 1).trans hc1
    have hds : w.heap.size < wr.heap.size := Nat.lt_of_lt_of_le hcs hfr.below.size
    have HFR := Lib.hid hfr
    clear hfr hc0 hc1 hcs hW
    by_cases hlt : i < j
    · obtain ⟨m, hm⟩ : ∃ m : Nat, ((i : Int) + j) / 2 = m := ⟨(i + j) / 2, by omega⟩
      have hm1 : i ≤ m := by omega
      have hm2 : m < j := by omega
      obtain ⟨x, hx⟩ : ∃ x, l[m]? = some x := ⟨_, List.getElem?_eq_getElem (by omega)⟩
      have hn2 : x.args.length ≤ 1073741824 := N2.out x (List.mem_of_getElem? hx)
      obtain ⟨b1, o1, xv, rfl, -, hb1, hx0, hx1, hxv⟩ := RdFacts.at ((H.out.more RFact.steady (fun _ _ _ => trivial)).agree RFact.steady hwr.out) hx
      obtain ⟨xa, xc, rfl, -, -, -⟩ := id hxv.form
      have K := Lib.hid (fun W (ha : Agree (fun _ => True) wr W) => compareFact x f (.slice xa x.args.length xc) (.slice fa f.args.length fc) W (hxv.agree RStr.steady ha) ((HF.out.more RStr.steady (fun _ _ _ => trivial)).agree RStr.steady (hwr.out.trans ha)) hn2)
      obtain ⟨q, hq⟩ : ∃ q, cmpFact x f = q := ⟨_, rfl⟩
      rw [hq] at K
      have HX := Lib.hid hx
      have HQ := Lib.hid hq
      have i1 : (0 : Int) ≤ (m : Int) := by omega
      have i2 : (m : Int) < (l.length : Int) := by omega
      clear hxv hx hq hwr
      by_cases hz : q < 0
      · go_wp2_with fail
        go_region_held3 (fun w' => w'.cell? ⟨b1, o1 + m * 2, none⟩ = some (.string x.name) ∧ w'.cell? ⟨b1, o1 + m * 2 + 1, none⟩ = some (.slice xa x.args.length xc) ∧
            w'.cell? ⟨w.heap.size, 0, none⟩ = some (.string f.name) ∧ w'.cell? ⟨w.heap.size, 1, none⟩ = some (.slice fa f.args.length fc))
          (first | (refine ⟨?_, ?_, ?_, ?_⟩ <;> (first | (rw [hk2 _ hb1]; assumption) | (rw [hk2 _ hds]; assumption))) | go_keep)
          (first
            | (go_at_call 84; refine (K.out _ (Agree.refl _ _).drew).mono ?_; rintro e w1 ⟨rfl, hf1⟩; have hk2 : ∀ c, c < wr.heap.size → ∀ off, w1.cell? ⟨c, off, none⟩ = wr.cell? ⟨c, off, none⟩ := fun c hc off => cell_below (w := wr.drew) hf1.below hc off))
        have HF2 : Hid (Fresh w0 w1) := (HFR.out.drew).trans hf1
        clear hf1 hk2 hd0 hd1 hx0 hx1
        go_wp2
        go_roundw
        case rel =>
          refine ⟨m + 1, j, by omega, hj, by go_num, rfl, ?_, hhi, HF2.out⟩
          intro a y ha hy
          by_cases e : a = m
          · subst e
            rw [HX.out] at hy
            injection hy with hy
            rw [← hy, HQ.out]; exact hz
          · have h1 : ltF y x = true := by
              have := HS.out
              obtain ⟨_, rfl⟩ := List.getElem?_eq_some_iff.1 hy
              obtain ⟨_, rfl⟩ := List.getElem?_eq_some_iff.1 HX.out
              exact List.pairwise_iff_getElem.1 this a m _ _ (by omega)
            have h2 : cmpFact y x < 0 := by simpa [ltF] using h1
            exact cmpFact3.trans _ _ _ h2 (by rw [HQ.out]; exact hz)
        case measure => simp [intOf]; omega
      · go_wp2_with fail
        go_region_held3 (fun w' => w'.cell? ⟨b1, o1 + m * 2, none⟩ = some (.string x.name) ∧ w'.cell? ⟨b1, o1 + m * 2 + 1, none⟩ = some (.slice xa x.args.length xc) ∧
            w'.cell? ⟨w.heap.size, 0, none⟩ = some (.string f.name) ∧ w'.cell? ⟨w.heap.size, 1, none⟩ = some (.slice fa f.args.length fc))
          (first | (refine ⟨?_, ?_, ?_, ?_⟩ <;> (first | (rw [hk2 _ hb1]; assumption) | (rw [hk2 _ hds]; assumption))) | go_keep)
          (first
            | (go_at_call 84; refine (K.out _ (Agree.refl _ _).drew).mono ?_; rintro e w1 ⟨rfl, hf1⟩; have hk2 : ∀ c, c < wr.heap.size → ∀ off, w1.cell? ⟨c, off, none⟩ = wr.cell? ⟨c, off, none⟩ := fun c hc off => cell_below (w := wr.drew) hf1.below hc off))
        have HF2 : Hid (Fresh w0 w1) := (HFR.out.drew).trans hf1
        clear hf1 hk2 hd0 hd1 hx0 hx1
        go_wp2
        go_roundw
        case rel =>
          refine ⟨i, m, by omega, by omega, rfl, rfl, hlo, ?_, HF2.out⟩
          intro a y ha hy
          by_cases e : a = m
          · subst e
            rw [HX.out] at hy
            injection hy with hy
            rw [← hy, HQ.out]; omega
          · have h1 : ltF x y = true := by
              have := HS.out
              obtain ⟨_, rfl⟩ := List.getElem?_eq_some_iff.1 hy
              obtain ⟨_, rfl⟩ := List.getElem?_eq_some_iff.1 HX.out
              exact List.pairwise_iff_getElem.1 this m a _ _ (by omega)
            have h2 : cmpFact x y < 0 := by simpa [ltF] using h1
            refine Int.not_lt.1 fun h3 => ?_
            have := cmpFact3.trans _ _ _ h2 h3
            rw [HQ.out] at this
            omega
        case measure => simp [intOf]; omega
    · obtain rfl : i = j := by omega
      by_cases hin : i < l.length
      · obtain ⟨x, hx⟩ : ∃ x, l[i]? = some x := ⟨_, List.getElem?_eq_getElem (by omega)⟩
        have hn2 : x.args.length ≤ 1073741824 := N2.out x (List.mem_of_getElem? hx)
        obtain ⟨b1, o1, xv, rfl, -, hb1, hx0, hx1, hxv⟩ := RdFacts.at ((H.out.more RFact.steady (fun _ _ _ => trivial)).agree RFact.steady hwr.out) hx
        obtain ⟨xa, xc, rfl, -, -, -⟩ := id hxv.form
        have K := Lib.hid (fun W (ha : Agree (fun _ => True) wr W) => compareFact x f (.slice xa x.args.length xc) (.slice fa f.args.length fc) W (hxv.agree RStr.steady ha) ((HF.out.more RStr.steady (fun _ _ _ => trivial)).agree RStr.steady (hwr.out.trans ha)) hn2)
        have hmem : memF f l = (cmpFact x f == 0) := by
          rw [Bool.eq_iff_iff, memF_iff, beq_iff_eq, cmpFact3.zero]
          constructor
          · intro hfm
            obtain ⟨p, hp⟩ := List.mem_iff_getElem?.1 hfm
            by_cases h1 : p < i
            · have := hlo.out p f h1 hp; rw [cmpFact3.self] at this; omega
            · by_cases h2 : p = i
              · subst h2; rw [hx] at hp; exact Option.some.inj hp
              · have h3 : ltF x f = true := by
                  have := HS.out
                  obtain ⟨_, rfl⟩ := List.getElem?_eq_some_iff.1 hp
                  obtain ⟨_, rfl⟩ := List.getElem?_eq_some_iff.1 hx
                  exact List.pairwise_iff_getElem.1 this i p _ _ (by omega)
                have h4 : cmpFact x f < 0 := by simpa [ltF] using h3
                have := hhi.out i x (Nat.le_refl _) hx
                omega
          · intro e; subst e; exact List.mem_of_getElem? hx
        obtain ⟨q, hq⟩ : ∃ q, cmpFact x f = q := ⟨_, rfl⟩
        rw [hq] at K hmem
        have HM := Lib.hid hmem
        have i1 : (0 : Int) ≤ (i : Int) := by omega
        have i2 : (i : Int) < (l.length : Int) := by omega
        have i3 : decide ((i : Int) < (l.length : Int)) = true := decide_eq_true i2
        have i4 : decide (i < l.length) = true := decide_eq_true hin
        clear hxv hx hq hwr hmem
        go_wp2_with fail
        go_region_held3 (fun w' => w'.cell? ⟨b1, o1 + i * 2, none⟩ = some (.string x.name) ∧ w'.cell? ⟨b1, o1 + i * 2 + 1, none⟩ = some (.slice xa x.args.length xc) ∧
            w'.cell? ⟨w.heap.size, 0, none⟩ = some (.string f.name) ∧ w'.cell? ⟨w.heap.size, 1, none⟩ = some (.slice fa f.args.length fc))
          (first | (refine ⟨?_, ?_, ?_, ?_⟩ <;> (first | (rw [hk2 _ hb1]; assumption) | (rw [hk2 _ hds]; assumption))) | go_keep)
          (first
            | (go_at_call 84; refine (K.out _ (Agree.refl _ _).drew).mono ?_; rintro e w1 ⟨rfl, hf1⟩; have hk2 : ∀ c, c < wr.heap.size → ∀ off, w1.cell? ⟨c, off, none⟩ = wr.cell? ⟨c, off, none⟩ := fun c hc off => cell_below (w := wr.drew) hf1.below hc off))
        have HF2 : Hid (Fresh w0 w1) := (HFR.out.drew).trans hf1
        clear hf1 hk2 hd0 hd1 hx0 hx1
        go_wp2
        go_ret2
        exact ⟨⟨i, by rw [HM.out]; rfl⟩, (hw0.out).trans HF2.out⟩
      · have hmem : memF f l = false := by
          rw [← Bool.not_eq_true, memF_iff]
          intro hfm
          obtain ⟨p, hp⟩ := List.mem_iff_getElem?.1 hfm
          have := hlo.out p f (by have := (List.getElem?_eq_some_iff.1 hp).1; omega) hp
          rw [cmpFact3.self] at this; omega
        have HM := Lib.hid hmem
        clear hmem
        have i3 : decide ((i : Int) < (l.length : Int)) = false := decide_eq_false (by omega)
        have i4 : decide (i < l.length) = false := decide_eq_false hin
        go_wp2_with fail
        go_quiet (fail)
        go_wp2
        go_ret2
        exact ⟨⟨i, by rw [HM.out]; rfl⟩, (hw0.out).trans (HFR.out.trans ⟨nq, #[], by simp⟩)⟩

theorem inFact {S T : Nat → Prop} (v : Value) (l : List PFact) (f : PFact) (av : Value) (w : World) (h : RdFacts S w v l) (hf : RdStrs T w av f.args) (hs : Rising l)
    (n1 : l.length ≤ 1073741824) (n2 : ∀ x ∈ l, x.args.length ≤ 1073741824) :
    Calls Tryz.prog 33 #[v, .agg #[.string f.name, av]] w fun e w' => e = .returned (.bool (memF f l)) ∧ Fresh w w' := by
  obtain ⟨a, c, rfl, -, -, -⟩ := id h.form
  obtain ⟨fa, fc, rfl, -, -, -⟩ := id hf.form
  have K := Lib.hid (fun W (ha : Agree (fun _ => True) w W) => searchFact (.slice a l.length c) l f (.slice fa f.args.length fc) W ((h.more RFact.steady (fun _ _ _ => trivial)).agree RFact.steady ha) ((hf.more RStr.steady (fun _ _ _ => trivial)).agree RStr.steady ha) hs n1 n2)
  clear h hf hs n2
  go_enter Tryz.func33, Tryz.ntmps33
  go_wp2_with (go_at_call 83; refine (K.out _ ((Agree.refl _ _).alloc _)).mono ?_; rintro e w1 ⟨⟨i, rfl⟩, hf1⟩)
  go_ret
  exact ⟨rfl, ((Fresh.refl _).alloc _).trans hf1⟩
end Go.Proofs.YtgoaiohkodbadaaGreat

/-
  THE WALK OF fact.Set: the first thing that is wrong with a set.
-/
namespace Go.Proofs.YtgoaiohkodbadaaGreat
open Go.RowKit

/-- What is wrong at a place. -/
def badAt (l : List PFact) (i : Nat) : Int :=
  match l[i]? with
  | none => 0
  | some f => if wrongF f ≠ 0 then wrongF f else match i with
    | 0 => 0
    | j + 1 => match l[j]? with
      | none => 0
      | some g => if cmpFact g f < 0 then 0 else 2
def setF (l : List PFact) : Int × Int :=
  if 200 < l.length then (5, 0) else match (List.range l.length).find? (fun i => badAt l i != 0) with
    | none => (0, 0)
    | some i => (badAt l i, (i : Int))
theorem setF_many {l : List PFact} (h : 200 < l.length) : setF l = (5, 0) := by simp [setF, h]
theorem setF_at {l : List PFact} (h : ¬ 200 < l.length) {i : Nat} (hi : i < l.length) (h0 : ∀ j, j < i → badAt l j = 0) (hb : badAt l i ≠ 0) : setF l = (badAt l i, (i : Int)) := by
  have : (List.range l.length).find? (fun i => badAt l i != 0) = some i := by
    rw [List.find?_range_eq_some]
    refine ⟨by simpa using hb, by simpa using hi, fun j hj => by simp [h0 j hj]⟩
  simp [setF, h, this]
theorem setF_ok {l : List PFact} (h : ¬ 200 < l.length) (h0 : ∀ j, j < l.length → badAt l j = 0) : setF l = (0, 0) := by
  have : (List.range l.length).find? (fun i => badAt l i != 0) = none := by
    rw [List.find?_range_eq_none]
    intro j hj; simp [h0 j (by simpa using hj)]
  simp [setF, h, this]
theorem badAt_wrong {l : List PFact} {i : Nat} {f : PFact} (h : l[i]? = some f) (hw : wrongF f ≠ 0) : badAt l i = wrongF f := by simp [badAt, h, hw]
theorem badAt_zero {l : List PFact} {f : PFact} (h : l[0]? = some f) (hw : wrongF f = 0) : badAt l 0 = 0 := by simp [badAt, h, hw]
theorem badAt_succ {l : List PFact} {i : Nat} {f g : PFact} (h : l[i + 1]? = some f) (k : l[i]? = some g) (hw : wrongF f = 0) : badAt l (i + 1) = if cmpFact g f < 0 then 0 else 2 := by simp [badAt, h, k, hw]

theorem past_cell {w w' : World} {o : Obj} (h : Below (w.alloc o).heap.size (w.alloc o) w') {c : Nat} (hc : c < w.heap.size) (off : Nat) : w'.cell? ⟨c, off, none⟩ = w.cell? ⟨c, off, none⟩ :=
  (cell_below h (by simp; omega) off).trans (World.cell?_of_block (Below.heap_alloc _ _ _ hc))
theorem past_frozen {w w' : World} {o : Obj} (h : Below (w.alloc o).heap.size (w.alloc o) w') {c : Nat} (hc : c < w.heap.size) (off : Nat) : w'.frozen? ⟨c, off, none⟩ = w.frozen? ⟨c, off, none⟩ :=
  (h.frozen (p := ⟨c, off, none⟩) (by simp; omega)).trans (World.frozen?_of_block (Below.heap_alloc _ _ _ hc))

attribute [local go_sem ↓] Go.wp_at_zero Go.wp_at_succ
set_option maxRecDepth 100000 in
set_option maxHeartbeats 4000000 in
theorem setCalls {S : Nat → Prop} (v : Value) (l : List PFact) (w : World) (h : RdFacts S w v l) (n1 : l.length ≤ 1073741824) (n2 : ∀ x ∈ l, x.args.length ≤ 1073741824) :
    Calls Tryz.prog 111 #[v] w fun e w' => e = .returned (.agg #[.int .i64 (setF l).1, .int .i64 (setF l).2]) ∧ Below w.heap.size w w' := by
  obtain ⟨a, c, rfl, -, -, -⟩ := id h.form
  have H := Lib.hid h
  have N2 := Lib.hid n2
  clear h n2
  by_cases hmany : 200 < l.length
  · have hs := setF_many hmany
    obtain ⟨q, hq⟩ : ∃ q, setF l = q := ⟨_, rfl⟩
    rw [hq] at hs ⊢
    subst hs
    have i1 : (200 : Int) < (l.length : Int) := by omega
    go_enter Tryz.func111, Tryz.ntmps111
    go_wp2
    refine bodyPost_ret (v := .agg #[.int .i64 5, .int .i64 0]) (by simp [results, Tryz.results111, go_sem]) rfl ⟨rfl, ?_⟩
    exact (Below.refl _ _).alloc (Nat.le_refl _) _
  · have i0 : ¬ ((200 : Int) < (l.length : Int)) := by omega
    go_enter Tryz.func111, Tryz.ntmps111
    go_wp2
    have c0 : (w.alloc (.cells #[.int .i64 0, .int .i64 0] 65)).cell? ⟨w.heap.size, 0, none⟩ = some (.int .i64 0) := by simp
    have c1 : (w.alloc (.cells #[.int .i64 0, .int .i64 0] 65)).cell? ⟨w.heap.size, 1, none⟩ = some (.int .i64 0) := by simp
    have f0 : (w.alloc (.cells #[.int .i64 0, .int .i64 0] 65)).frozen? ⟨w.heap.size, 0, none⟩ = false := by simp
    have f1 : (w.alloc (.cells #[.int .i64 0, .int .i64 0] 65)).frozen? ⟨w.heap.size, 1, none⟩ = false := by simp
    have hz0 : w.heap.size < (w.alloc (.cells #[.int .i64 0, .int .i64 0] 65)).heap.size := by simp
    have HB := Lib.hid ((Below.refl w.heap.size w).alloc (Nat.le_refl _) (.cells #[.int .i64 0, .int .i64 0] 65))
    generalize w.alloc (.cells #[.int .i64 0, .int .i64 0] 65) = w0 at *
    go_loopw [12] (fun i wr => ∃ k : Nat, k ≤ l.length ∧ i = .int .i64 k ∧ Hid (Below w.heap.size w wr) ∧ w.heap.size < wr.heap.size ∧ Hid (∀ j, j < k → badAt l j = 0) ∧ wr.cell? ⟨w.heap.size, 0, none⟩ = some (.int .i64 0) ∧ wr.cell? ⟨w.heap.size, 1, none⟩ = some (.int .i64 0) ∧ wr.frozen? ⟨w.heap.size, 0, none⟩ = false ∧ wr.frozen? ⟨w.heap.size, 1, none⟩ = false) (fun i _ => l.length - (intOf i).toNat)
    case atStart => exact ⟨0, Nat.zero_le _, rfl, HB, hz0, fun j hj => by omega, c0, c1, f0, f1⟩
    case round =>
      obtain ⟨k, hk, rfl, HB, hsz, HZ, c0, c1, f0, f1⟩ := hrel
      by_cases hlt : k < l.length
      · obtain ⟨x, hx⟩ : ∃ x, l[k]? = some x := ⟨_, List.getElem?_eq_getElem hlt⟩
        have hn2 : x.args.length ≤ 1073741824 := N2.out x (List.mem_of_getElem? hx)
        obtain ⟨b1, o1, av, rfl, -, hb1, hc1, hc2, hav⟩ := RdFacts.at ((H.out.more RFact.steady (S' := fun _ => True) (fun _ _ _ => trivial)).agree RFact.steady (Below.agree HB.out)) hx
        obtain ⟨aa, ac, rfl, -, -, -⟩ := id hav.form
        have HA := Lib.hid hav
        have HX := Lib.hid hx
        have hW := wrongFact x _ (wr.alloc (.cells #[.string x.name, .slice aa x.args.length ac] 27)) (hav.agree RStr.steady ((Agree.refl _ _).alloc _)) (by omega)
        clear hav hx
        by_cases hz : wrongF x = 0
        · rw [hz] at hW
          have HW := Lib.hid hW
          have HZX := Lib.hid hz
          clear hW hz
          rcases k with _ | j
          · have z0 : ((0 : Nat) : Int) = 0 := rfl
            have HBZ := Lib.hid (badAt_zero HX.out HZX.out)
            have HZ1 := Lib.hid (show ∀ j, j < 1 → badAt l j = 0 from fun j hj => (show j = 0 by omega) ▸ HBZ.out)
            simp only [Nat.zero_mul, Nat.add_zero] at hc1 hc2
            rw [z0]
            go_wp2_with (go_at_call 53; refine (HW.out).mono ?_; rintro e w1 ⟨rfl, hf1⟩; have d0 := (past_cell hf1.below hsz 0).trans c0; have d1 := (past_cell hf1.below hsz 1).trans c1; have g0 := (past_frozen hf1.below hsz 0).trans f0; have g1 := (past_frozen hf1.below hsz 1).trans f1; have HB1 := Lib.hid ((HB.out.alloc (Nat.le_of_lt hsz) _).trans (hf1.below.mono (by simp; omega))); have hs1 : w.heap.size < w1.heap.size := (by have := hf1.below.size; simp at this; omega); clear hf1)
            go_quiet (fail)
            go_wp2
            go_roundw
            case rel => exact ⟨1, by omega, by go_num, Lib.hid ⟨HB1.out.os, HB1.out.tape, HB1.out.output, HB1.out.size, HB1.out.block⟩, hs1, HZ1, d0, d1, g0, g1⟩
            case measure => simp [intOf]; omega
          · obtain ⟨y, hy⟩ : ∃ y, l[j]? = some y := ⟨_, List.getElem?_eq_getElem (by omega)⟩
            have hn2y : y.args.length ≤ 1073741824 := N2.out y (List.mem_of_getElem? hy)
            obtain ⟨b2, o2, yv, e2, -, -, hd1, hd2, hyv⟩ := RdFacts.at ((H.out.more RFact.steady (S' := fun _ => True) (fun _ _ _ => trivial)).agree RFact.steady (Below.agree HB.out)) hy
            injection e2 with e2; injection e2 with e2 e2' _
            subst e2 e2'
            obtain ⟨ya, yc, rfl, -, -, -⟩ := id hyv.form
            have HY := Lib.hid hyv
            have HBS := Lib.hid (badAt_succ HX.out hy HZX.out)
            have i1 : (0 : Int) ≤ (j : Int) := by omega
            have i2 : (j : Int) + 1 < (l.length : Int) := by omega
            have i3 : (j : Int) < (l.length : Int) := by omega
            have i4 : (0 : Int) ≤ (j : Int) + 1 := by omega
            have i5 : IntKind.i64.wrap (j : Int) = j := by rw [IntKind.wrap_i64]; omega
            have i6 : (0 : Int) < (j : Int) + 1 := by omega
            have e1 : ((j + 1 : Nat) : Int) = (j : Int) + 1 := by omega
            have K := Lib.hid (fun W (ha : Agree (fun _ => True) wr W) => compareFact y x (.slice ya y.args.length yc) (.slice aa x.args.length ac) W (HY.out.agree RStr.steady ha) (HA.out.agree RStr.steady ha) hn2y)
            clear hyv hy
            obtain ⟨q, hq⟩ : ∃ q, cmpFact y x = q := ⟨_, rfl⟩
            rw [hq] at K HBS
            clear hq
            rw [e1]
            by_cases hlt2 : q < 0
            · have HL := Lib.hid hlt2
              have hq0 : (0 ≤ q) = False := by simp; omega
              clear hlt2
              go_wp2_with (go_at_call 53; refine (HW.out).mono ?_; rintro e w1 ⟨rfl, hf1⟩; have d0 := (past_cell hf1.below hsz 0).trans c0; have d1 := (past_cell hf1.below hsz 1).trans c1; have g0 := (past_frozen hf1.below hsz 0).trans f0; have g1 := (past_frozen hf1.below hsz 1).trans f1; have HB1 := Lib.hid ((HB.out.alloc (Nat.le_of_lt hsz) _).trans (hf1.below.mono (by simp; omega))); have hs1 : w.heap.size < w1.heap.size := (by have := hf1.below.size; simp at this; omega); have hx0 : w1.cell? ⟨wr.heap.size, 0, none⟩ = some (.string x.name) := (cell_below hf1.below (by simp) 0).trans (by simp); have hx1 : w1.cell? ⟨wr.heap.size, 1, none⟩ = some (.slice aa x.args.length ac) := (cell_below hf1.below (by simp) 1).trans (by simp); have hsx : wr.heap.size < w1.heap.size := (by have := hf1.below.size; simp at this; omega); have hb2 : b1 < w1.heap.size := (by omega); have hy0 := (past_cell hf1.below hb1 (o1 + j * 2)).trans hd1; have hy1 := (past_cell hf1.below hb1 (o1 + j * 2 + 1)).trans hd2; have HAG := Lib.hid (show Agree (fun _ => True) wr w1 from ((Agree.refl _ _).alloc _).trans (Below.agree hf1.below)); clear hf1)
              go_region_held3 (fun w' => w'.cell? ⟨b1, o1 + j * 2, none⟩ = some (.string y.name) ∧ w'.cell? ⟨b1, o1 + j * 2 + 1, none⟩ = some (.slice ya y.args.length yc) ∧
                  w'.cell? ⟨wr.heap.size, 0, none⟩ = some (.string x.name) ∧ w'.cell? ⟨wr.heap.size, 1, none⟩ = some (.slice aa x.args.length ac))
                (first | (refine ⟨?_, ?_, ?_, ?_⟩ <;> (first | (rw [hk2 _ hb2]; assumption) | (rw [hk2 _ hsx]; assumption))) | go_keep)
                (first
                  | (go_at_call 84; refine (K.out _ HAG.out.drew).mono ?_; rintro e w2 ⟨rfl, hf2⟩; have hk2 : ∀ c, c < w1.heap.size → ∀ off, w2.cell? ⟨c, off, none⟩ = w1.cell? ⟨c, off, none⟩ := fun c hc off => cell_below (w := w1.drew) hf2.below hc off))
              have HB2 := Lib.hid (HB1.out.drew.trans (hf2.below.mono HB1.out.size))
              have m0 := (hk2 _ hs1 0).trans d0
              have m1 := (hk2 _ hs1 1).trans d1
              have m2 := (hf2.below.frozen (p := ⟨w.heap.size, 0, none⟩) hs1).trans g0
              have m3 := (hf2.below.frozen (p := ⟨w.heap.size, 1, none⟩) hs1).trans g1
              have hs2 : w.heap.size < w2.heap.size := Nat.lt_of_lt_of_le hs1 hf2.below.size
              clear hf2 hk2 hx0 hx1 hy0 hy1
              go_wp2
              go_roundw
              case rel =>
                refine ⟨j + 1 + 1, by omega, by go_num, HB2.out, hs2, fun i hi => ?_, m0, m1, m2, m3⟩
                by_cases e : i = j + 1
                · subst e; rw [HBS.out, if_pos HL.out]
                · exact HZ.out i (by omega)
              case measure => simp [intOf]; omega
            · have HL := Lib.hid hlt2
              have hq0 : (0 ≤ q) = True := by simp; omega
              have hs := setF_at hmany hlt HZ.out (by rw [HBS.out, if_neg HL.out]; decide)
              rw [HBS.out, if_neg HL.out] at hs
              have HS := Lib.hid hs
              clear hlt2 hs
              go_wp2_with (go_at_call 53; refine (HW.out).mono ?_; rintro e w1 ⟨rfl, hf1⟩; have d0 := (past_cell hf1.below hsz 0).trans c0; have d1 := (past_cell hf1.below hsz 1).trans c1; have g0 := (past_frozen hf1.below hsz 0).trans f0; have g1 := (past_frozen hf1.below hsz 1).trans f1; have HB1 := Lib.hid ((HB.out.alloc (Nat.le_of_lt hsz) _).trans (hf1.below.mono (by simp; omega))); have hs1 : w.heap.size < w1.heap.size := (by have := hf1.below.size; simp at this; omega); have hx0 : w1.cell? ⟨wr.heap.size, 0, none⟩ = some (.string x.name) := (cell_below hf1.below (by simp) 0).trans (by simp); have hx1 : w1.cell? ⟨wr.heap.size, 1, none⟩ = some (.slice aa x.args.length ac) := (cell_below hf1.below (by simp) 1).trans (by simp); have hsx : wr.heap.size < w1.heap.size := (by have := hf1.below.size; simp at this; omega); have hb2 : b1 < w1.heap.size := (by omega); have hy0 := (past_cell hf1.below hb1 (o1 + j * 2)).trans hd1; have hy1 := (past_cell hf1.below hb1 (o1 + j * 2 + 1)).trans hd2; have HAG := Lib.hid (show Agree (fun _ => True) wr w1 from ((Agree.refl _ _).alloc _).trans (Below.agree hf1.below)); clear hf1)
              go_region_held3 (fun w' => w'.cell? ⟨b1, o1 + j * 2, none⟩ = some (.string y.name) ∧ w'.cell? ⟨b1, o1 + j * 2 + 1, none⟩ = some (.slice ya y.args.length yc) ∧
                  w'.cell? ⟨wr.heap.size, 0, none⟩ = some (.string x.name) ∧ w'.cell? ⟨wr.heap.size, 1, none⟩ = some (.slice aa x.args.length ac))
                (first | (refine ⟨?_, ?_, ?_, ?_⟩ <;> (first | (rw [hk2 _ hb2]; assumption) | (rw [hk2 _ hsx]; assumption))) | go_keep)
                (first
                  | (go_at_call 84; refine (K.out _ HAG.out.drew).mono ?_; rintro e w2 ⟨rfl, hf2⟩; have hk2 : ∀ c, c < w1.heap.size → ∀ off, w2.cell? ⟨c, off, none⟩ = w1.cell? ⟨c, off, none⟩ := fun c hc off => cell_below (w := w1.drew) hf2.below hc off))
              have HB2 := Lib.hid (HB1.out.drew.trans (hf2.below.mono HB1.out.size))
              have m0 := (hk2 _ hs1 0).trans d0
              have m1 := (hk2 _ hs1 1).trans d1
              have m2 := (hf2.below.frozen (p := ⟨w.heap.size, 0, none⟩) hs1).trans g0
              have m3 := (hf2.below.frozen (p := ⟨w.heap.size, 1, none⟩) hs1).trans g1
              clear hf2 hk2 hx0 hx1 hy0 hy1
              go_wp2
              refine bodyPost_ret (v := .agg #[.int .i64 2, .int .i64 ((j + 1 : Nat) : Int)]) (by simp [results, Tryz.results111, go_sem, m0, m1]) rfl ⟨by rw [HS.out], ?_⟩
              exact (HB2.out.setCell (Nat.le_refl _) _).setCell (Nat.le_refl _) _
        · have hne : (wrongF x != 0) = true := by simpa using hz
          have hs := setF_at hmany hlt HZ.out (by rw [badAt_wrong HX.out hz]; exact hz)
          rw [badAt_wrong HX.out hz] at hs
          have HS := Lib.hid hs
          have HW := Lib.hid hW
          clear hs hW
          generalize wrongF x = q at *
          go_wp2_with (go_at_call 53; refine (HW.out).mono ?_; rintro e w1 ⟨rfl, hf1⟩; have d0 := (past_cell hf1.below hsz 0).trans c0; have d1 := (past_cell hf1.below hsz 1).trans c1; have g0 := (past_frozen hf1.below hsz 0).trans f0; have g1 := (past_frozen hf1.below hsz 1).trans f1; have HB1 := Lib.hid ((HB.out.alloc (Nat.le_of_lt hsz) _).trans (hf1.below.mono (by simp; omega))); clear hf1)
          refine bodyPost_ret (v := .agg #[.int .i64 q, .int .i64 k]) (by simp [results, Tryz.results111, go_sem, d0, d1]) rfl ⟨by rw [HS.out], ?_⟩
          exact (HB1.out.setCell (Nat.le_refl _) _).setCell (Nat.le_refl _) _
      · have HS := Lib.hid (setF_ok hmany (fun j hj => HZ.out j (by omega)))
        go_wp2
        refine bodyPost_ret (v := .agg #[.int .i64 0, .int .i64 0]) (by simp [results, Tryz.results111, go_sem, c0, c1]) rfl ⟨by rw [HS.out], ?_⟩
        exact (HB.out.setCell (Nat.le_refl _) _).setCell (Nat.le_refl _) _
end Go.Proofs.YtgoaiohkodbadaaGreat

/-
  PLAIN: what match.With comes to; and what the laws of chapter 4 say of it.
-/
namespace Go.Proofs.YtgoaiohkodbadaaGreat

def pickP (facts other : List PFact) (at' : Int) (i : Nat) : List PFact := if (i : Int) = at' then other else facts
theorem pickP_all (facts other : List PFact) : pickP facts other (-1) = fun _ => facts := by
  funext i; unfold pickP; rw [if_neg (by omega)]
def withP (body : List PAtom) (facts : List PFact) (at' : Int) (other : List PFact) : List Binds × Int :=
  if bodyBad body ≠ 0 then ([], bodyBad body)
  else if (setF facts).1 ≠ 0 then ([], (setF facts).1)
  else if (setF other).1 ≠ 0 then ([], (setF other).1)
  else match goP (pickP facts other at') 0 [[]] body with
    | none => ([], 4)
    | some ls => (tidyP (notP (pickP facts other at') 0 ls body), 0)
def allP (body : List PAtom) (facts : List PFact) : List Binds × Int := withP body facts (-1) []

theorem setF_zero {l : List PFact} (h : (setF l).1 = 0) : l.length ≤ 200 ∧ ∀ i, i < l.length → badAt l i = 0 := by
  by_cases h1 : 200 < l.length
  · rw [setF_many h1] at h; exact absurd h (by decide)
  · refine ⟨by omega, fun i hi => Classical.byContradiction fun hb => ?_⟩
    unfold setF at h
    rw [if_neg h1] at h
    cases hf : (List.range l.length).find? (fun i => badAt l i != 0) with
    | none =>
      rw [List.find?_range_eq_none] at hf
      have := hf i (by simpa using hi)
      simp at this
      exact hb this
    | some j =>
      rw [hf] at h
      rw [List.find?_range_eq_some] at hf
      have := hf.1
      simp at this
      exact this h
theorem setF_set {l : List PFact} (h : (setF l).1 = 0) : l.length ≤ 200 ∧ Rising l ∧ ∀ f ∈ l, wrongF f = 0 := by
  obtain ⟨h1, h2⟩ := setF_zero h
  have hw : ∀ i f, l[i]? = some f → wrongF f = 0 := fun i f hf => Classical.byContradiction fun hb => by
    have := h2 i (List.getElem?_eq_some_iff.1 hf).1
    rw [badAt_wrong hf hb] at this
    exact hb this
  have hs : ∀ i f g, l[i]? = some f → l[i + 1]? = some g → cmpFact f g < 0 := fun i f g hf hg => by
    have := h2 (i + 1) (List.getElem?_eq_some_iff.1 hg).1
    rw [badAt_succ hg hf (hw _ _ hg)] at this
    split at this
    · assumption
    · exact absurd this (by decide)
  refine ⟨h1, ?_, fun f hf => ?_⟩
  · have key : ∀ d i f g, l[i]? = some f → l[i + d + 1]? = some g → cmpFact f g < 0 := fun d => by
      induction d with
      | zero => exact fun i f g hf hg => hs i f g hf hg
      | succ d ih =>
        intro i f g hf hg
        obtain ⟨m, hm⟩ : ∃ m, l[i + d + 1]? = some m := ⟨_, List.getElem?_eq_getElem (by have := (List.getElem?_eq_some_iff.1 hg).1; omega)⟩
        exact cmpFact3.trans _ _ _ (ih i f m hf hm) (hs _ m g hm hg)
    refine List.pairwise_iff_getElem.2 fun i j hi hj hij => ?_
    simp only [ltF, decide_eq_true_eq]
    refine key (j - i - 1) i _ _ (List.getElem?_eq_getElem hi) ?_
    rw [show i + (j - i - 1) + 1 = j by omega]
    exact List.getElem?_eq_getElem hj
  · obtain ⟨i, hi⟩ := List.mem_iff_getElem?.1 hf
    exact hw i f hi
theorem setF_nil : setF [] = (0, 0) := rfl
/-- With error 0 all is told; with another one nothing. -/
theorem withP_cases (body : List PAtom) (facts : List PFact) (at' : Int) (other : List PFact) :
    ((withP body facts at' other).2 ≠ 0 ∧ (withP body facts at' other).1 = []) ∨
    ((withP body facts at' other).2 = 0 ∧ bodyBad body = 0 ∧ (setF facts).1 = 0 ∧ (setF other).1 = 0 ∧ RisingC cmpBinds (withP body facts at' other).1 ∧ ∀ m, m ∈ (withP body facts at' other).1 ↔ Told (pickP facts other at') body m) := by
  unfold withP
  by_cases h1 : bodyBad body = 0
  · rw [if_neg (by simpa using h1)]
    by_cases h2 : (setF facts).1 = 0
    · rw [if_neg (by simpa using h2)]
      by_cases h3 : (setF other).1 = 0
      · rw [if_neg (by simpa using h3)]
        cases hg : goP (pickP facts other at') 0 [[]] body with
        | none => exact .inl ⟨(by decide : (4 : Int) ≠ 0), rfl⟩
        | some ls => exact .inr ⟨rfl, h1, h2, h3, tidyP_rising _, told_iff h1 hg⟩
      · rw [if_pos h3]; exact .inl ⟨h3, rfl⟩
    · rw [if_pos h2]; exact .inl ⟨h2, rfl⟩
  · rw [if_pos h1]; exact .inl ⟨h1, rfl⟩
theorem allP_cases (body : List PAtom) (facts : List PFact) :
    ((allP body facts).2 ≠ 0 ∧ (allP body facts).1 = []) ∨
    ((allP body facts).2 = 0 ∧ bodyBad body = 0 ∧ (setF facts).1 = 0 ∧ RisingC cmpBinds (allP body facts).1 ∧ ∀ m, m ∈ (allP body facts).1 ↔ Told (fun _ => facts) body m) := by
  rcases withP_cases body facts (-1) [] with h | ⟨h1, h2, h3, -, h4, h5⟩
  · exact .inl h
  · exact .inr ⟨h1, h2, h3, h4, fun m => by have := h5 m; rwa [pickP_all] at this⟩

/-- MatchOrder. -/
theorem told_reverse {fs : List PFact} {body : List PAtom} {m : Binds} : Told (fun _ => fs) body.reverse m ↔ Told (fun _ => fs) body m := by
  unfold Told
  refine and_congr_right fun _ => and_congr_right fun _ => and_congr ?_ ?_
  · simp only [List.mem_reverse]
  · constructor
    · intro h j a ha
      obtain ⟨i, hi⟩ := List.mem_iff_getElem?.1 (List.mem_reverse.2 (List.mem_of_getElem? ha))
      exact h i a hi
    · intro h j a ha
      obtain ⟨i, hi⟩ := List.mem_iff_getElem?.1 (List.mem_reverse.1 (List.mem_of_getElem? ha))
      exact h i a hi
theorem all_turned (body : List PAtom) (fs : List PFact) (h : (allP body fs).2 = 0) (k : (allP body.reverse fs).2 = 0) : (allP body fs).1 = (allP body.reverse fs).1 := by
  rcases allP_cases body fs with ⟨h1, -⟩ | ⟨-, -, -, h1, h2⟩
  · exact absurd h h1
  · rcases allP_cases body.reverse fs with ⟨k1, -⟩ | ⟨-, -, -, k1, k2⟩
    · exact absurd k k1
    · exact risingC_ext cmpBinds3 h1 k1 fun m => by rw [h2, k2, told_reverse]

/-- MatchSo. -/
theorem all_so {body : List PAtom} {fs : List PFact} {m : Binds} (hm : m ∈ (allP body fs).1) {a : PAtom} (ha : a ∈ body) : ∃ f, fillP a m = some f ∧ memF f fs = !a.neg := by
  rcases allP_cases body fs with ⟨-, h1⟩ | ⟨-, -, -, -, h2⟩
  · rw [h1] at hm; simp at hm
  · obtain ⟨j, hj⟩ := List.mem_iff_getElem?.1 ha
    exact ((h2 m).1 hm).2.2.2 j a hj
theorem all_rise {body : List PAtom} {fs : List PFact} {i : Nat} {x y : Binds} (hx : (allP body fs).1[i]? = some x) (hy : (allP body fs).1[i + 1]? = some y) : cmpBinds x y < 0 := by
  have hr : RisingC cmpBinds (allP body fs).1 := by
    rcases allP_cases body fs with ⟨-, h1⟩ | ⟨-, -, -, h1, -⟩
    · rw [h1]; exact List.Pairwise.nil
    · exact h1
  obtain ⟨h1, h2⟩ := List.getElem?_eq_some_iff.1 hx
  obtain ⟨h3, h4⟩ := List.getElem?_eq_some_iff.1 hy
  have := List.pairwise_iff_getElem.1 hr i (i + 1) h1 h3 (by omega)
  rw [h2, h4] at this
  simpa [ltC] using this

/-- MatchAll: the guess. -/
def guessS (names : List Str) (env : Binds) (v : Str) : Binds := if (getB v env).isSome then env else env ++ [⟨v, names.getD (env.length % names.length) .empty⟩]
def guessP (names : List Str) (vs : List Str) : Binds := vs.foldl (guessS names) []
theorem guess_nd (names : List Str) : ∀ (vs : List Str) (env : Binds), Nd env → Nd (vs.foldl (guessS names) env) ∧ ∀ v, v ∈ Vs (vs.foldl (guessS names) env) ↔ v ∈ Vs env ∨ v ∈ vs
  | [], env, h => ⟨h, by simp⟩
  | u :: vs, env, h => by
    rw [List.foldl_cons]
    have h1 : Nd (guessS names env u) ∧ ∀ v, v ∈ Vs (guessS names env u) ↔ v ∈ Vs env ∨ v = u := by
      unfold guessS
      cases hg : getB u env with
      | some n =>
        refine ⟨h, fun v => ⟨.inl, ?_⟩⟩
        rintro (k | k)
        · exact k
        · rw [k]; exact List.mem_map.2 ⟨_, getB_mem hg, rfl⟩
      | none => exact ⟨nd_snoc h (getB_none.1 hg), fun v => by simp [Vs]⟩
    obtain ⟨g1, g2⟩ := guess_nd names vs _ h1.1
    refine ⟨g1, fun v => ?_⟩
    rw [g2, h1.2, List.mem_cons]
    constructor
    · rintro ((h | h) | h)
      · exact .inl h
      · exact .inr (.inl h)
      · exact .inr (.inr h)
    · rintro (h | h | h)
      · exact .inl (.inl h)
      · exact .inl (.inr h)
      · exact .inr h
theorem guess_len (names : List Str) : ∀ (vs : List Str) (env : Binds), (vs.foldl (guessS names) env).length ≤ env.length + vs.length
  | [], env => by simp
  | u :: vs, env => by
    rw [List.foldl_cons]
    have := guess_len names vs (guessS names env u)
    have h1 : (guessS names env u).length ≤ env.length + 1 := by unfold guessS; split <;> simp
    simp only [List.length_cons]; omega
theorem all_told {body : List PAtom} {fs : List PFact} (h : (allP body fs).2 = 0) {env : Binds} (hn : Nd env) (hv : ∀ v, v ∈ Vs env ↔ v ∈ allVars body)
    (hf : ∀ a ∈ body, ∃ f, fillP a env = some f ∧ memF f fs = !a.neg) : ∃ l ∈ (allP body fs).1, l.length = env.length ∧ ∀ b ∈ env, getB b.var l = some b.name := by
  rcases allP_cases body fs with ⟨h1, -⟩ | ⟨-, -, -, -, h2⟩
  · exact absurd h h1
  · refine ⟨ofC cmpBind env, (h2 _).2 ⟨ofC_rising cmpBind3 env, nd_ofC hn, fun v => ?_, fun j a ha => ?_⟩, length_ofC cmpBind3 env (nd_nodup hn), fun b hb => ?_⟩
    · rw [vs_ofC, hv]
      unfold allVars
      simp [List.mem_flatMap]
    · obtain ⟨f, h1, h3⟩ := hf a (List.mem_of_getElem? ha)
      exact ⟨f, by rw [fillP_same (getB_ofC hn)]; exact h1, h3⟩
    · rw [getB_ofC hn]
      exact getB_of_mem hn hb
end Go.Proofs.YtgoaiohkodbadaaGreat

/-
  ROWS IN A ROW: a slice of lists of binds, each in a row of its own, all apart.
-/
namespace Go.Proofs.YtgoaiohkodbadaaGreat
open Go.RowKit

theorem RBind.one {S : Nat → Prop} {w : World} {cs : List Value} {x : PBind} (h : RBind S w cs x) : ∀ u ∈ cs, u.oneCell' = true := by
  have h' : cs = [.string x.var, .string x.name] := h
  subst h'; simp [Value.oneCell']
theorem RBinds.one {S : Nat → Prop} {w : World} {cs : List Value} {x : Binds} (h : RBinds S w cs x) : ∀ u ∈ cs, u.oneCell' = true := by
  obtain ⟨v, rfl, hr⟩ := h
  obtain ⟨a, c, rfl, -⟩ := hr.form
  simp [Value.oneCell']
theorem rowBinds : RowT Tryz.prog 157 185 2 := RowT.mk' (b := 32) (z := .agg #[.string ⟨#[]⟩, .string ⟨#[]⟩]) Tryz.underlying157 (by kernel_rfl) (by omega) rfl (by omega)
theorem rowBindss : RowT Tryz.prog 55 157 1 := RowT.mk' (b := 24) (z := .slice none 0 0) Tryz.underlying55 (by kernel_rfl) (by omega) rfl (by omega)

/-- A list of binds, and the slice that holds it. -/
abbrev VB := Value × Binds
def RPair : Reader VB := fun _ _ cs z => cs = [z.1] ∧ z.1.oneCell' = true
theorem RPair.steady : Steady RPair := ⟨fun _ h => h, fun _ h => h⟩
theorem RPair.one {S : Nat → Prop} {w : World} {cs : List Value} {x : VB} (h : RPair S w cs x) : ∀ u ∈ cs, u.oneCell' = true := by
  obtain ⟨rfl, h⟩ := h
  simpa using h
abbrev OB (B : Nat) (w : World) (v : Value) (l : Binds) : Prop := Owned 2 RBind B 185 (fun _ => False) w v l
abbrev OV (B : Nat) (w : World) (v : Value) (zs : List VB) : Prop := Owned 1 RPair B 157 (fun _ => False) w v zs

structure Nest (B : Nat) (w : World) (v : Value) (zs : List VB) : Prop where
  outer : OV B w v zs
  inner : ∀ z ∈ zs, OB B w z.1 z.2
  apart : zs.Pairwise fun y z => ∀ b, y.1.ownBlock = some b → z.1.ownBlock ≠ some b
  off : ∀ z ∈ zs, ∀ b, z.1.ownBlock = some b → v.ownBlock ≠ some b

theorem Owned.kept {α : Type} {k : Nat} {R : Reader α} (hR : Steady R) {B : Nat} {e : TypeId} {w w' : World} {v : Value} {l : List α} (h : Owned k R B e (fun _ => False) w v l) {row : Option Nat} (hg : w.grownBy w' row) (hne : ∀ q, v.ownBlock = some q → row ≠ some q) : Owned k R B e (fun _ => False) w' v l :=
  h.keep hR ⟨hg.size, fun _ hb _ => hb.elim⟩ fun g hg' => hg.block g (h.row_lt hg').2 (fun e => hne g hg' e.symm)

section
variable {B : Nat} {w w' : World} {v v' : Value} {zs : List VB}
theorem Nest.nil : Nest B w (.slice none 0 0) [] := ⟨Owned.nil, by simp, List.Pairwise.nil, by simp⟩
theorem Nest.below (h : Nest B w v zs) (hb : Below w.heap.size w w') : Nest B w' v zs :=
  ⟨h.outer.below RPair.steady hb, fun z hz => (h.inner z hz).below RBind.steady hb, h.apart, h.off⟩
theorem Nest.alloc (h : Nest B w v zs) (o : Obj) : Nest B (w.alloc o) v zs := h.below ((Below.refl _ _).alloc (Nat.le_refl _) o)
theorem Nest.row_lt (h : Nest B w v zs) {g : Nat} (hg : v.ownBlock = some g) : B ≤ g ∧ g < w.heap.size := h.outer.row_lt hg
theorem Nest.inner_lt (h : Nest B w v zs) {z : VB} (hz : z ∈ zs) {g : Nat} (hg : z.1.ownBlock = some g) : B ≤ g ∧ g < w.heap.size := (h.inner z hz).row_lt hg
/-- Behind what turns none of its rows. -/
theorem Nest.kept (h : Nest B w v zs) {row : Option Nat} (hg : w.grownBy w' row) (hr : ∀ q, row = some q → q < B) : Nest B w' v zs :=
  ⟨h.outer.kept RPair.steady hg (fun q hq e => by have := (h.row_lt hq).1; have := hr q e; omega), fun z hz => (h.inner z hz).kept RBind.steady hg (fun q hq e => by have := (h.inner_lt hz hq).1; have := hr q e; omega), h.apart, h.off⟩
/-- Behind an append to the outer row. -/
theorem Nest.snoc (h : Nest B w v zs) {z : VB} (hz : OB B w z.1 z.2) (ha : ∀ y ∈ zs, ∀ b, y.1.ownBlock = some b → z.1.ownBlock ≠ some b) (hv : ∀ b, z.1.ownBlock = some b → v.ownBlock ≠ some b)
    (ho : OV B w' v' (zs ++ [z])) (hg : w.grownBy w' v.ownBlock) (hat : v'.ownBlock = v.ownBlock ∨ v'.ownBlock = some w.heap.size) : Nest B w' v' (zs ++ [z]) := by
  refine ⟨ho, fun y hy => ?_, ?_, fun y hy b hb => ?_⟩
  · rcases List.mem_append.1 hy with hy | hy
    · exact (h.inner y hy).kept RBind.steady hg (fun q hq e => h.off y hy q hq e)
    · obtain rfl := List.mem_singleton.1 hy
      exact hz.kept RBind.steady hg (fun q hq e => hv q hq e)
  · refine List.pairwise_append.2 ⟨h.apart, List.pairwise_singleton _ _, fun y hy y' hy' => ?_⟩
    obtain rfl := List.mem_singleton.1 hy'
    exact ha y hy
  · have hlt : b < w.heap.size := by
      rcases List.mem_append.1 hy with hy | hy
      · exact (h.inner_lt hy hb).2
      · obtain rfl := List.mem_singleton.1 hy
        exact (hz.row_lt hb).2
    have hvb : v.ownBlock ≠ some b := by
      rcases List.mem_append.1 hy with hy | hy
      · exact h.off y hy b hb
      · obtain rfl := List.mem_singleton.1 hy
        exact hv b hb
    rcases hat with hat | hat
    · rw [hat]; exact hvb
    · rw [hat]; intro e; injection e with e; omega
/-- Behind what turns the outer row alone, and strikes some. -/
theorem Nest.filter (h : Nest B w v zs) (p : VB → Bool) (ho : OV B w' v' (zs.filter p)) (hg : w.grownBy w' v.ownBlock) (hv : v'.ownBlock = v.ownBlock) : Nest B w' v' (zs.filter p) :=
  ⟨ho, fun z hz => (h.inner z (List.mem_filter.1 hz).1).kept RBind.steady hg (fun q hq e => h.off z (List.mem_filter.1 hz).1 q hq e), h.apart.filter _, fun z hz b hb => by rw [hv]; exact h.off z (List.mem_filter.1 hz).1 b hb⟩
/-- Behind what turns one inner row alone. -/
theorem Nest.turn {us bs : List VB} {z : VB} {l : Binds} (h : Nest B w v (us ++ z :: bs)) (hz : OB B w' z.1 l) (ho : OV B w v (us ++ (z.1, l) :: bs)) (hg : w.grownBy w' z.1.ownBlock) : Nest B w' v (us ++ (z.1, l) :: bs) := by
  have hmem : z ∈ us ++ z :: bs := by simp
  obtain ⟨p1, p2, p3⟩ := List.pairwise_append.1 h.apart
  obtain ⟨p4, p5⟩ := List.pairwise_cons.1 p2
  refine ⟨ho.kept RPair.steady hg (fun q hq e => h.off z hmem q e hq), fun y hy => ?_, ?_, fun y hy b hb => ?_⟩
  · rcases List.mem_append.1 hy with hy | hy
    · exact (h.inner y (by simp [hy])).kept RBind.steady hg (fun q hq e => p3 y hy z (by simp) q hq e)
    · rcases List.mem_cons.1 hy with rfl | hy
      · exact hz
      · exact (h.inner y (by simp [hy])).kept RBind.steady hg (fun q hq e => p4 y hy q e hq)
  · refine List.pairwise_append.2 ⟨p1, List.pairwise_cons.2 ⟨p4, p5⟩, fun y hy y' hy' => ?_⟩
    rcases List.mem_cons.1 hy' with rfl | hy'
    · exact p3 y hy z (by simp)
    · exact p3 y hy y' (by simp [hy'])
  · rcases List.mem_append.1 hy with hy | hy
    · exact h.off y (by simp [hy]) b hb
    · rcases List.mem_cons.1 hy with rfl | hy
      · exact h.off z hmem b hb
      · exact h.off y (by simp [hy]) b hb
/-- The lists of a row of pairs may be told anew. -/
theorem OV.tell {ys : List VB} (h : OV B w v zs) (hl : ys.map (·.1) = zs.map (·.1)) : OV B w v ys := by
  obtain ⟨css, h1, h2, h3, h4⟩ := h
  have hlen : ys.length = zs.length := by have := congrArg List.length hl; simpa using this
  refine ⟨css, by omega, h2, by rw [hlen]; exact h3, fun i cs x hc hx => ?_⟩
  have hi := (List.getElem?_eq_some_iff.1 hx).1
  obtain ⟨y, hy⟩ : ∃ y, zs[i]? = some y := ⟨_, List.getElem?_eq_getElem (by omega)⟩
  have he : x.1 = y.1 := by
    have h5 : (ys.map (·.1))[i]? = some x.1 := by rw [List.getElem?_map, hx]; rfl
    have h6 : (zs.map (·.1))[i]? = some y.1 := by rw [List.getElem?_map, hy]; rfl
    rw [hl, h6] at h5
    exact (Option.some.inj h5).symm
  have := h4 i cs y hc hy
  unfold RPair at *
  rw [he]; exact this
/-- What one owns reads, of one's own block alone. -/
theorem OB.read {x : Value} {l : Binds} (h : OB B w x l) : RdBinds (fun b => x.ownBlock = some b) w x l := by
  have h' := h
  obtain ⟨css, h1, h2, ho, h3⟩ := h
  rcases ho.2 with ⟨rfl, h0⟩ | ⟨g, cap, cur, rfl, hb, hgg, hnc, hcm, hcs, htake⟩
  · refine ⟨none, 0, by rw [h0], by omega, Nat.zero_le _, fun _ => rfl, fun i x hx => ?_⟩
    have := (List.getElem?_eq_some_iff.1 hx).1
    omega
  · refine ⟨some ⟨g, 0, none⟩, cap, rfl, hnc, hcm, (fun h => by cases h), fun i x hx => ?_⟩
    have hi := (List.getElem?_eq_some_iff.1 hx).1
    obtain ⟨cs, hcss⟩ : ∃ cs, css[i]? = some cs := ⟨_, List.getElem?_eq_getElem (by omega)⟩
    refine ⟨g, 0, cs, rfl, rfl, (Array.getElem?_eq_some_iff.1 hgg).1, h2 cs (List.mem_of_getElem? hcss), fun j u hu => ?_, h3 i cs x hcss hx⟩
    have := ho.cells (g := g) rfl (i * 2 + j) u (flatten_get css h2 i cs j u hcss hu)
    have hadd : (⟨g, 0, none⟩ : Addr).add (i * 2 + j) = ⟨g, 0 + i * 2 + j, none⟩ := by unfold Addr.add; split <;> simp_all
    rwa [hadd] at this
theorem OB.slice {x : Value} {l : Binds} (h : OB B w x l) : x.oneCell' = true := by
  obtain ⟨a, c, rfl, -⟩ := (OB.read h).form
  simp [Value.oneCell']
theorem Nest.reads (h : Nest B w v zs) : Owned 1 RBinds B 157 (fun b => B ≤ b) w v (zs.map (·.2)) := by
  obtain ⟨css, h1, h2, h3, h4⟩ := h.outer
  refine ⟨css, by simpa using h1, h2, by rw [List.length_map]; exact h3, fun i cs x hc hx => ?_⟩
  rw [List.getElem?_map] at hx
  cases hz : zs[i]? with
  | none => rw [hz] at hx; cases hx
  | some z =>
    rw [hz] at hx
    obtain rfl : z.2 = x := by simpa using hx
    have hm := List.mem_of_getElem? hz
    obtain ⟨rfl, -⟩ := h4 i cs z hc hz
    exact ⟨z.1, rfl, (OB.read (h.inner z hm)).more RBind.steady (fun b hb _ => ⟨(h.inner_lt hm hb).1, fun e => h.off z hm b hb e.symm⟩)⟩
end
end Go.Proofs.YtgoaiohkodbadaaGreat
