/-
  THE WALKS OF cmp.Compare, slices.Compare, cmp.Or and fact.Compare: each answers its plain function.
-/
import Derived.Test.YtmnpneandkiblaaBase
namespace Go.Proofs.Ytmnpneandkiblaa
open Go.RowKit

theorem isNaNStr (x : Str) (w : World) : Calls Try.prog 68 #[.string x] w fun e w' => e = .returned (.bool false) ∧ w = w' := by
  go_enter Try.func68, Try.ntmps68
  go_wp2
  go_ret
  exact ⟨by simp, rfl⟩
theorem isNaNInt (x : Int) (w : World) : Calls Try.prog 77 #[.int .i64 x] w fun e w' => e = .returned (.bool false) ∧ w = w' := by
  go_enter Try.func77, Try.ntmps77
  go_wp2
  go_ret
  exact ⟨by simp, rfl⟩

set_option maxHeartbeats 400000 in
theorem compareStr (x y : Str) (w : World) : Calls Try.prog 43 #[.string x, .string y] w fun e w' => e = .returned (.int .i64 (cmpStr x y)) ∧ w = w' := by
  by_cases h1 : strLt x y = true
  · have g1 : Op.bytesLess x.toList y.toList = true := h1
    have e : cmpStr x y = -1 := by simp [cmpStr, h1]
    rw [e]
    clear e h1
    go_enter Try.func43, Try.ntmps43
    go_wp2_with (go_at_call 68; refine (isNaNStr _ _).mono ?_; rintro e w' ⟨rfl, rfl⟩)
    go_ret
    exact ⟨rfl, rfl⟩
  · have g1 : Op.bytesLess x.toList y.toList = false := by simpa [strLt] using h1
    by_cases h2 : strLt y x = true
    · have g2 : (x.toList == y.toList) = false := by
        rw [beq_eq_false_iff_ne]
        intro he
        have := toList_inj he
        subst this
        rw [strLt_irrefl] at h2
        cases h2
      have e : cmpStr x y = 1 := by simp [cmpStr, h1, h2]
      rw [e]
      clear e h1 h2
      go_enter Try.func43, Try.ntmps43
      go_wp2_with (go_at_call 68; refine (isNaNStr _ _).mono ?_; rintro e w' ⟨rfl, rfl⟩)
      go_ret
      exact ⟨rfl, rfl⟩
    · have he : x = y := strLt_tri (by simpa using h1) (by simpa using h2)
      have g2 : (x.toList == y.toList) = true := by rw [he]; exact beq_self_eq_true _
      have e : cmpStr x y = 0 := by simp [cmpStr, h1, h2]
      rw [e]
      clear e h1 h2 he
      go_enter Try.func43, Try.ntmps43
      go_wp2_with (go_at_call 68; refine (isNaNStr _ _).mono ?_; rintro e w' ⟨rfl, rfl⟩)
      go_ret
      exact ⟨rfl, rfl⟩

set_option maxHeartbeats 400000 in
theorem compareInt (x y : Int) (w : World) : Calls Try.prog 61 #[.int .i64 x, .int .i64 y] w fun e w' => e = .returned (.int .i64 (cmpInt x y)) ∧ w = w' := by
  unfold cmpInt
  by_cases h1 : x < y
  · rw [if_pos h1]
    go_enter Try.func61, Try.ntmps61
    go_wp2_with (go_at_call 77; refine (isNaNInt _ _).mono ?_; rintro e w' ⟨rfl, rfl⟩)
    go_ret
    exact ⟨rfl, rfl⟩
  · rw [if_neg h1]
    by_cases h2 : y < x
    · rw [if_pos h2]
      go_enter Try.func61, Try.ntmps61
      go_wp2_with (go_at_call 77; refine (isNaNInt _ _).mono ?_; rintro e w' ⟨rfl, rfl⟩)
      go_ret
      exact ⟨rfl, rfl⟩
    · rw [if_neg h2]
      go_enter Try.func61, Try.ntmps61
      go_wp2_with (go_at_call 77; refine (isNaNInt _ _).mono ?_; rintro e w' ⟨rfl, rfl⟩)
      go_ret
      exact ⟨rfl, rfl⟩

theorem cmpStrs_drop_cons {x : Str} {l : List Str} {k : Nat} (h : l[k]? = some x) : l.drop k = x :: l.drop (k + 1) := by
  obtain ⟨hk, rfl⟩ := List.getElem?_eq_some_iff.1 h
  exact List.drop_eq_getElem_cons hk

set_option maxHeartbeats 1000000 in
theorem slicesCompare {S T : Nat → Prop} (v1 v2 : Value) (l1 l2 : List Str) (w : World) (h1 : RdStrs S w v1 l1) (h2 : RdStrs T w v2 l2) (n1 : l1.length ≤ 1073741824) :
    Calls Try.prog 62 #[v1, v2] w fun e w' => e = .returned (.int .i64 (cmpStrs l1 l2)) ∧ w = w' := by
  obtain ⟨a1, c1, rfl, -, -, -⟩ := h1.form
  obtain ⟨a2, c2, rfl, -, -, -⟩ := h2.form
  have H1 := Lib.hid h1
  have H2 := Lib.hid h2
  clear h1 h2
  go_enter Try.func62, Try.ntmps62
  go_wp2
  go_loop [11, 5, 6, 7, 8] (fun i _ _ _ _ => ∃ k : Nat, k ≤ l1.length ∧ k ≤ l2.length ∧ i = .int .i64 k ∧ cmpStrs l1 l2 = cmpStrs (l1.drop k) (l2.drop k)) (fun i _ _ _ _ => l1.length - (intOf i).toNat)
  case atStart => exact ⟨0, Nat.zero_le _, Nat.zero_le _, rfl, rfl⟩
  case round =>
    obtain ⟨k, hk, hk2, rfl, hr⟩ := hrel
    have HR := Lib.hid hr
    clear hr
    by_cases hlt : k < l1.length
    · obtain ⟨x, hx⟩ : ∃ x, l1[k]? = some x := ⟨_, List.getElem?_eq_getElem hlt⟩
      obtain ⟨b1, o1, rfl, -, -, hc1⟩ := H1.out.at hx
      have HX := Lib.hid hx
      clear hx
      by_cases hlt2 : k < l2.length
      · obtain ⟨y, hy⟩ : ∃ y, l2[k]? = some y := ⟨_, List.getElem?_eq_getElem hlt2⟩
        obtain ⟨b2, o2, rfl, -, -, hc2⟩ := H2.out.at hy
        have HY := Lib.hid hy
        clear hy
        by_cases hz : cmpStr x y = 0
        · have gz : (cmpStr x y != 0) = false := by simp [hz]
          have HZ := Lib.hid hz
          clear hz
          go_wp2_with (go_at_call 43; refine (compareStr _ _ _).mono ?_; rintro e w' ⟨rfl, rfl⟩)
          go_round
          case rel =>
            refine ⟨k + 1, by omega, by omega, by go_num, ?_⟩
            rw [HR.out, cmpStrs_drop_cons HX.out, cmpStrs_drop_cons HY.out]
            simp [cmpStrs, HZ.out]
          case measure => simp [intOf]; omega
        · have gz : (cmpStr x y != 0) = true := by simp [hz]
          have HZ := Lib.hid hz
          clear hz
          go_wp2_with (go_at_call 43; refine (compareStr _ _ _).mono ?_; rintro e w' ⟨rfl, rfl⟩)
          go_ret
          refine ⟨ret_int ?_, rfl⟩
          rw [HR.out, cmpStrs_drop_cons HX.out, cmpStrs_drop_cons HY.out]
          simp [cmpStrs, HZ.out]
      · go_wp2
        go_ret
        refine ⟨ret_int ?_, rfl⟩
        rw [HR.out, cmpStrs_drop_cons HX.out, List.drop_eq_nil_of_le (by omega : l2.length ≤ k)]
        simp [cmpStrs]
    · by_cases hlt2 : k < l2.length
      · go_wp2
        go_ret
        refine ⟨ret_int ?_, rfl⟩
        rw [HR.out, List.drop_eq_nil_of_le (by omega : l1.length ≤ k)]
        obtain ⟨y, hy⟩ : ∃ y, l2[k]? = some y := ⟨_, List.getElem?_eq_getElem hlt2⟩
        rw [cmpStrs_drop_cons hy]
        simp [cmpStrs]
      · go_wp2
        go_ret
        refine ⟨ret_int ?_, rfl⟩
        rw [HR.out, List.drop_eq_nil_of_le (by omega : l1.length ≤ k), List.drop_eq_nil_of_le (by omega : l2.length ≤ k)]
        simp [cmpStrs]

theorem orInt_drop_cons {x : Int} {l : List Int} {k : Nat} (h : l[k]? = some x) : l.drop k = x :: l.drop (k + 1) := by
  obtain ⟨hk, rfl⟩ := List.getElem?_eq_some_iff.1 h
  exact List.drop_eq_getElem_cons hk

set_option maxHeartbeats 400000 in
theorem cmpOr {S : Nat → Prop} (v : Value) (l : List Int) (w : World) (h : RdInts S w v l) (n1 : l.length ≤ 1073741824) :
    Calls Try.prog 42 #[v] w fun e w' => e = .returned (.int .i64 (orInt l)) ∧ w = w' := by
  obtain ⟨a, c, rfl, -, -, -⟩ := h.form
  have H := Lib.hid h
  clear h
  go_enter Try.func42, Try.ntmps42
  go_wp2
  go_loop [8, 5] (fun i _ => ∃ k : Nat, k ≤ l.length ∧ i = .int .i64 k ∧ orInt l = orInt (l.drop k)) (fun i _ => l.length - (intOf i).toNat)
  case atStart => exact ⟨0, Nat.zero_le _, rfl, rfl⟩
  case round =>
    obtain ⟨k, hk, rfl, hr⟩ := hrel
    have HR := Lib.hid hr
    clear hr
    by_cases hlt : k < l.length
    · obtain ⟨x, hx⟩ : ∃ x, l[k]? = some x := ⟨_, List.getElem?_eq_getElem hlt⟩
      obtain ⟨b, o, rfl, -, -, hc⟩ := H.out.at hx
      have HX := Lib.hid hx
      clear hx
      by_cases hz : x = 0
      · subst hz
        go_wp2
        go_round
        case rel =>
          refine ⟨k + 1, by omega, by go_num, ?_⟩
          rw [HR.out, orInt_drop_cons HX.out]
          simp [orInt]
        case measure => simp [intOf]; omega
      · have gz : (x != 0) = true := by simp [hz]
        have HZ := Lib.hid hz
        clear hz
        go_wp2
        go_ret
        refine ⟨ret_int ?_, rfl⟩
        rw [HR.out, orInt_drop_cons HX.out]
        simp [orInt, HZ.out]
    · go_wp2
      go_ret
      refine ⟨ret_int ?_, rfl⟩
      rw [HR.out, List.drop_eq_nil_of_le (by omega : l.length ≤ k)]
      rfl

theorem cmpOr3 (p q r : Int) (w : World) (b : Nat) (h : w.heap[b]? = some (.cells #[.int .i64 p, .int .i64 q, .int .i64 r] 3 (0, 0))) :
    Calls Try.prog 42 #[.slice (some ⟨b, 0, none⟩) 3 3] w fun e w' => e = .returned (.int .i64 (orInt [p, q, r])) ∧ w = w' :=
  cmpOr (S := fun _ => True) _ [p, q, r] w (RdInts.block rfl h trivial (by unfold maxLen; omega)) (by simp)

attribute [local go_sem ↓] Go.wp_at_zero Go.wp_at_succ
set_option maxHeartbeats 2000000 in
theorem compareFact {S T : Nat → Prop} (f g : PFact) (va vb : Value) (w : World) (h1 : RdStrs S w va f.args) (h2 : RdStrs T w vb g.args) (n1 : f.args.length ≤ 1073741824) :
    Calls Try.prog 36 #[.agg #[.string f.name, va], .agg #[.string g.name, vb]] w fun e w' => e = .returned (.int .i64 (cmpFact f g)) ∧ Fresh w w' := by
  have K3 : ∀ w', Agree (fun _ => True) w w' → Calls Try.prog 62 #[va, vb] w' fun e w'' => e = .returned (.int .i64 (cmpStrs f.args g.args)) ∧ w' = w'' :=
    fun w' ha => slicesCompare va vb f.args g.args w' ((h1.more RStr.steady (fun _ _ _ => trivial)).agree RStr.steady ha) ((h2.more RStr.steady (fun _ _ _ => trivial)).agree RStr.steady ha) n1
  obtain ⟨a1, c1, rfl, -, -, -⟩ := h1.form
  obtain ⟨a2, c2, rfl, -, -, -⟩ := h2.form
  have e3 : cmpFact f g = orInt [cmpStr f.name g.name, cmpInt f.args.length g.args.length, cmpStrs f.args g.args] := rfl
  rw [e3]
  clear e3 h1 h2
  have HK := Lib.hid K3
  clear K3
  generalize cmpStrs f.args g.args = r3 at *
  go_enter Try.func36, Try.ntmps36
  go_wp2_with fail
  go_region_held3 (fun w' => w'.cell? ⟨w.heap.size, 0, none⟩ = some (.string f.name) ∧ w'.cell? ⟨w.heap.size, 1, none⟩ = some (.slice a1 f.args.length c1) ∧
      w'.cell? ⟨w.heap.size + 1, 0, none⟩ = some (.string g.name) ∧ w'.cell? ⟨w.heap.size + 1, 1, none⟩ = some (.slice a2 g.args.length c2)) (go_keep)
    (first
      | (go_at_call 43; refine (compareStr _ _ _).mono ?_; rintro e w' ⟨rfl, rfl⟩)
      | (go_at_call 61; refine (compareInt _ _ _).mono ?_; rintro e w' ⟨rfl, rfl⟩)
      | (go_at_call 62; refine (HK.out _ ?_).mono ?_; (exact ((Agree.refl _ _).alloc _).alloc _); rintro e w' ⟨rfl, rfl⟩)
      | (go_at_call 42; refine (cmpOr3 (cmpStr f.name g.name) (cmpInt f.args.length g.args.length) r3 _ _ ?_).mono ?_; (exact heap_new_at (by simp)); rintro e w' ⟨rfl, rfl⟩))
  go_wp2
  go_ret
  exact ⟨rfl, ((((Fresh.refl _).alloc _).alloc _).alloc _).drew⟩
end Go.Proofs.Ytmnpneandkiblaa
