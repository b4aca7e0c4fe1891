/-
  THE WALK OF cororef1.Walk.word.
-/
import Derived.Test.YtobbjapmdpkogaaRefW1
import Derived.Test.YtobbjapmdpkogaaRef1Var
namespace Go.Proofs.Ytobbjapmdpkogaa
open Go.RowKit

/-- A word: a name, or, if that may be, a variable. -/
def wordR (vars : Bool) (r : Bytes) : Got Str :=
  if wordOf r = [] then .error (2, blankF false r) else if nameL (wordOf r) = true ∨ (vars = true ∧ varL (wordOf r) = true) then .ok (strOf (wordOf r), (blankF false r).drop (wordOf r).length) else .error (7, blankF false r)
theorem wordR_true (r : Bytes) : wordR true r = wordF r := by
  unfold wordR wordF
  by_cases h1 : wordOf r = []
  · rw [if_pos h1, if_pos h1]
  · rw [if_neg h1, if_neg h1]
    cases h2 : nameL (wordOf r) <;> cases h3 : varL (wordOf r) <;> simp
theorem takeWhile_append_of {p : UInt8 → Bool} : ∀ (a b : Bytes), (∀ c ∈ a, p c = true) → (a ++ b).takeWhile p = a ++ b.takeWhile p
  | [], _, _ => rfl
  | c :: a, b, h => by
    rw [List.cons_append, List.takeWhile, h c (by simp), takeWhile_append_of a b (fun x hx => h x (by simp [hx]))]
    rfl

theorem strOf_of_bytes' (x : Str) : strOf (bytesOf x) = x := by cases x; simp [strOf, bytesOf]
attribute [local go_sem ↓] Go.wp_at_zero Go.wp_at_succ
set_option maxRecDepth 100000 in
set_option maxHeartbeats 8000000 in
theorem walkWord (B : Nat) (s : Str) (k : Nat) (vars : Bool) (w : World) (hs : s.size ≤ 1099511627776) (h : Wk B s k 0 0 w) :
    Calls Try.prog 65 #[.pointer (some ⟨B, 0, none⟩), .bool vars] w fun e w' => EndsR B s w (fun x v _ => v = .string x ∧ x.size ≤ 1099511627776) (wordR vars (rest s k)) e w' := by
  have KB := Lib.hid (skipRef B s k 0 0 w hs h)
  have KO := Lib.hid (okRef B s k 0 0 w h)
  rw [decide_eq_true (rfl : (0 : Int) = 0)] at KO
  have hBw := h.lt
  clear h
  have hr := rest_posF ((blankF_suffix false (rest s k)).trans (rest_suffix s k))
  have hR : wordR vars (rest s k) = if (blankF false (rest s k)).takeWhile signB = [] then .error (2, blankF false (rest s k)) else if nameL ((blankF false (rest s k)).takeWhile signB) = true ∨ (vars = true ∧ varL ((blankF false (rest s k)).takeWhile signB) = true) then .ok (strOf ((blankF false (rest s k)).takeWhile signB), (blankF false (rest s k)).drop ((blankF false (rest s k)).takeWhile signB).length) else .error (7, blankF false (rest s k)) := rfl
  generalize hx : blankF false (rest s k) = r at *
  clear hx
  have hp := posF_le s r
  obtain ⟨j, hj⟩ : ∃ j, posF s r = j := ⟨_, rfl⟩
  rw [hj] at KB hp hr
  obtain ⟨n0, hn0⟩ : ∃ n0, (r.takeWhile signB).length = n0 := ⟨_, rfl⟩
  obtain ⟨htw, hsg, hno⟩ := takeWhile_cut r n0 hn0
  have hrl : r.length = s.size - j := by rw [← hr, rest_length]
  have hn0l : j + n0 ≤ s.size := by
    have h1 : (r.takeWhile signB).length ≤ r.length := by rw [htw, List.length_take]; omega
    omega
  obtain ⟨E, hE⟩ : ∃ E, j + n0 = E := ⟨_, rfl⟩
  have HSG := Lib.hid (show ∀ m, (hh : m < s.size) → j ≤ m → m < E → signB s[m] = true from fun m hh h1 h2 => by
    have h3 := rest_get s j (m - j) (by omega)
    have e : j + (m - j) = m := by omega
    simp only [e] at h3
    exact hsg (m - j) _ (by omega) (by rw [← hr]; exact h3))
  have HNO := Lib.hid (show (hh : E < s.size) → signB s[E] = false from fun hh => by
    have h3 := rest_get s j n0 (by omega)
    simp only [hE] at h3
    exact hno _ (by rw [← hr]; exact h3))
  obtain ⟨x, hxx⟩ : ∃ x : Str, s.extract j E = x := ⟨_, rfl⟩
  have hxb : bytesOf x = r.takeWhile signB := by rw [← hxx, extract_bytes s j E (by omega), hr, htw, ← hE]; simp
  have hxs : x.size = n0 := by rw [← bytesOf_length, hxb, hn0]
  rw [← hxb, bytesOf_length, hxs, ← hr, drop_rest, strOf_of_bytes' x, hE] at hR
  have HPE := Lib.hid (show posF s (rest s E) = E from posF_rest s (by omega))
  have HPJ := Lib.hid (show posF s (rest s j) = j from posF_rest s hp)
  have HG := Lib.hid hR
  have hx40 : x.size ≤ 1099511627776 := by omega
  have hE0 : E ≤ s.size := by omega
  have hjE : j ≤ E := by omega
  have HN0 := Lib.hid hn0l
  clear hj hR hsg hno htw hn0 hrl hr hxb hn0l
  have j0 : (0 : Int) ≤ (j : Int) := by omega
  have j1 : (j : Int) ≤ (E : Int) := by omega
  have j2 : (E : Int) ≤ (s.size : Int) := by omega
  have j5 : IntKind.i64.wrap (j : Int) = j := by rw [IntKind.wrap_i64]; omega
  by_cases h0 : n0 = 0
  · have HGG := Lib.hid (show wordR vars (rest s k) = .error (2, rest s j) from by
      rw [HG.out, if_pos]
      exact List.length_eq_zero_iff.1 (by rw [bytesOf_length, hxs, h0]))
    have g1 : x.toList.isEmpty = true := by
      rw [ByteArray.toList_eq]
      have : x.data.toList = [] := List.length_eq_zero_iff.1 (by have := bytesOf_length x; unfold bytesOf at this; rw [this, hxs, h0])
      rw [this]; rfl
    clear h0 hxs hE HN0 HG
    go_enter Try.func65, Try.ntmps65
    go_wp2_with (first
      | (go_at_call 44; refine (KO.out).mono ?_; rintro e w0 ⟨rfl, rfl⟩)
      | (go_at_call 43; refine (KB.out).mono ?_; rintro e w1 ⟨rfl, hp1, hb1⟩; have HP := Lib.hid hp1; have HB := Lib.hid hb1; have c0 := hp1.c0; have c1 := hp1.c1; clear hp1 hb1))
    go_loopw [5] (fun i wr => ∃ m : Nat, j ≤ m ∧ m ≤ E ∧ i = .int .i64 (m : Int) ∧ wr = w1) (fun i _ => s.size - (intOf i).toNat)
    case atStart => exact ⟨j, Nat.le_refl _, hjE, rfl, by first | rfl | trivial⟩
    case round =>
      obtain ⟨m, hm1, hm2, rfl, rfl⟩ := hrel
      have m0 : (0 : Int) ≤ (m : Int) := by omega
      have m6 : IntKind.i64.wrap ((m : Int) + 1) = (m : Int) + 1 := by rw [IntKind.wrap_i64]; omega
      by_cases hlt : m < E
      · have hms : m < s.size := by omega
        have i1 : (m : Int) < (s.size : Int) := by omega
        have KS := Lib.hid (fun W => signRef s[m] W)
        rw [HSG.out m hms hm1 hlt] at KS
        go_wp2_with (go_at_call 66; refine (KS.out _).mono ?_; rintro e w2 ⟨rfl, rfl⟩)
        go_roundw
        case rel => exact ⟨m + 1, by omega, by omega, by go_num, by first | rfl | trivial⟩
        case measure => simp [intOf]; omega
      · obtain rfl : m = E := by omega
        by_cases hend : m < s.size
        · have i1 : (m : Int) < (s.size : Int) := by omega
          have KS := Lib.hid (fun W => signRef s[m] W)
          rw [HNO.out hend] at KS
          go_wp2_with (go_at_call 66; refine (KS.out _).mono ?_; rintro e w2 ⟨rfl, rfl⟩)
          go_quiet (fail)
          go_wp2_with (first
            | (go_at_call 45; refine (stopGood B s j 0 2 _ (HP.out.drewN nq)).mono ?_; rintro e w5 ⟨rfl, hp5, hb5⟩; have HP5 := Lib.hid hp5; have HB5 := Lib.hid ((HB.out.drewN nq).trans hb5); clear hp5 hb5))
          go_ret
          exact EndsR.mk_error (x := x) HGG.out HB5.out rfl ⟨rfl, hx40⟩ (by rw [HPJ.out]; exact HP5.out)
        · have i1 : ¬ (m : Int) < (s.size : Int) := by omega
          go_wp2
          go_quiet (fail)
          go_wp2_with (first
            | (go_at_call 45; refine (stopGood B s j 0 2 _ (HP.out.drewN nq)).mono ?_; rintro e w5 ⟨rfl, hp5, hb5⟩; have HP5 := Lib.hid hp5; have HB5 := Lib.hid ((HB.out.drewN nq).trans hb5); clear hp5 hb5))
          go_ret
          exact EndsR.mk_error (x := x) HGG.out HB5.out rfl ⟨rfl, hx40⟩ (by rw [HPJ.out]; exact HP5.out)
  · have hxne : bytesOf x ≠ [] := fun e => h0 (by rw [← hxs, ← bytesOf_length, e]; rfl)
    have g1 : x.toList.isEmpty = false := by
      rw [ByteArray.toList_eq]
      cases hl : x.data.toList with
      | nil => exact absurd hl hxne
      | cons c l => rfl
    have hG2 := HG.out
    rw [if_neg hxne] at hG2
    clear h0 hxs hE HN0 HG hxne
    cases hnm : named x
    · cases hvs : vars
      · have HGG := Lib.hid (show wordR false (rest s k) = .error (7, rest s j) from by
          rw [hvs] at hG2
          rw [hG2, if_neg]
          rintro (h | h)
          · have : named x = true := h
            rw [hnm] at this; cases this
          · cases h.1)
        have HNM := Lib.hid hnm
        subst hvs
        clear hnm hG2
        go_enter Try.func65, Try.ntmps65
        go_wp2_with (first
          | (go_at_call 44; refine (KO.out).mono ?_; rintro e w0 ⟨rfl, rfl⟩)
          | (go_at_call 43; refine (KB.out).mono ?_; rintro e w1 ⟨rfl, hp1, hb1⟩; have HP := Lib.hid hp1; have HB := Lib.hid hb1; have c0 := hp1.c0; have c1 := hp1.c1; clear hp1 hb1))
        go_loopw [5] (fun i wr => ∃ m : Nat, j ≤ m ∧ m ≤ E ∧ i = .int .i64 (m : Int) ∧ wr = w1) (fun i _ => s.size - (intOf i).toNat)
        case atStart => exact ⟨j, Nat.le_refl _, hjE, rfl, by first | rfl | trivial⟩
        case round =>
          obtain ⟨m, hm1, hm2, rfl, rfl⟩ := hrel
          have m0 : (0 : Int) ≤ (m : Int) := by omega
          have m6 : IntKind.i64.wrap ((m : Int) + 1) = (m : Int) + 1 := by rw [IntKind.wrap_i64]; omega
          by_cases hlt : m < E
          · have hms : m < s.size := by omega
            have i1 : (m : Int) < (s.size : Int) := by omega
            have KS := Lib.hid (fun W => signRef s[m] W)
            rw [HSG.out m hms hm1 hlt] at KS
            go_wp2_with (go_at_call 66; refine (KS.out _).mono ?_; rintro e w2 ⟨rfl, rfl⟩)
            go_roundw
            case rel => exact ⟨m + 1, by omega, by omega, by go_num, by first | rfl | trivial⟩
            case measure => simp [intOf]; omega
          · obtain rfl : m = E := by omega
            by_cases hend : m < s.size
            · have i1 : (m : Int) < (s.size : Int) := by omega
              have KS := Lib.hid (fun W => signRef s[m] W)
              rw [HNO.out hend] at KS
              go_wp2_with (go_at_call 66; refine (KS.out _).mono ?_; rintro e w2 ⟨rfl, rfl⟩)
              go_quiet (fail)
              go_wp2_with (first
                | (go_at_call 60; refine (namedRef x _ hx40).mono ?_; rw [HNM.out]; rintro e w3 ⟨rfl, hb3⟩; have HP3 := Lib.hid ((HP.out.drewN nq).below hb3 (HP.out.drewN nq).lt); have HB3 := Lib.hid ((HB.out.drewN nq).below hb3); clear hb3; have a1 := HP3.out.c1; have fz1 := HP3.out.fz 1)
                | (go_at_call 45; refine (stopGood B s j 0 7 _ (HP3.out)).mono ?_; rintro e w5 ⟨rfl, hp5, hb5⟩; have HP5 := Lib.hid hp5; have HB5 := Lib.hid ((HB3.out).trans hb5); clear hp5 hb5))
              go_ret
              exact EndsR.mk_error (x := x) HGG.out HB5.out rfl ⟨rfl, hx40⟩ (by rw [HPJ.out]; exact HP5.out)
            · have i1 : ¬ (m : Int) < (s.size : Int) := by omega
              go_wp2
              go_quiet (fail)
              go_wp2_with (first
                | (go_at_call 60; refine (namedRef x _ hx40).mono ?_; rw [HNM.out]; rintro e w3 ⟨rfl, hb3⟩; have HP3 := Lib.hid ((HP.out.drewN nq).below hb3 (HP.out.drewN nq).lt); have HB3 := Lib.hid ((HB.out.drewN nq).below hb3); clear hb3; have a1 := HP3.out.c1; have fz1 := HP3.out.fz 1)
                | (go_at_call 45; refine (stopGood B s j 0 7 _ (HP3.out)).mono ?_; rintro e w5 ⟨rfl, hp5, hb5⟩; have HP5 := Lib.hid hp5; have HB5 := Lib.hid ((HB3.out).trans hb5); clear hp5 hb5))
              go_ret
              exact EndsR.mk_error (x := x) HGG.out HB5.out rfl ⟨rfl, hx40⟩ (by rw [HPJ.out]; exact HP5.out)
      · cases hvm : variableS x
        · have HGG := Lib.hid (show wordR true (rest s k) = .error (7, rest s j) from by
            rw [hvs] at hG2
            rw [hG2, if_neg]
            rintro (h | h)
            · have : named x = true := h
              rw [hnm] at this; cases this
            · have : variableS x = true := h.2
              rw [hvm] at this; cases this)
          have HNM := Lib.hid hnm
          have HVM := Lib.hid hvm
          subst hvs
          clear hnm hvm hG2
          go_enter Try.func65, Try.ntmps65
          go_wp2_with (first
            | (go_at_call 44; refine (KO.out).mono ?_; rintro e w0 ⟨rfl, rfl⟩)
            | (go_at_call 43; refine (KB.out).mono ?_; rintro e w1 ⟨rfl, hp1, hb1⟩; have HP := Lib.hid hp1; have HB := Lib.hid hb1; have c0 := hp1.c0; have c1 := hp1.c1; clear hp1 hb1))
          go_loopw [5] (fun i wr => ∃ m : Nat, j ≤ m ∧ m ≤ E ∧ i = .int .i64 (m : Int) ∧ wr = w1) (fun i _ => s.size - (intOf i).toNat)
          case atStart => exact ⟨j, Nat.le_refl _, hjE, rfl, by first | rfl | trivial⟩
          case round =>
            obtain ⟨m, hm1, hm2, rfl, rfl⟩ := hrel
            have m0 : (0 : Int) ≤ (m : Int) := by omega
            have m6 : IntKind.i64.wrap ((m : Int) + 1) = (m : Int) + 1 := by rw [IntKind.wrap_i64]; omega
            by_cases hlt : m < E
            · have hms : m < s.size := by omega
              have i1 : (m : Int) < (s.size : Int) := by omega
              have KS := Lib.hid (fun W => signRef s[m] W)
              rw [HSG.out m hms hm1 hlt] at KS
              go_wp2_with (go_at_call 66; refine (KS.out _).mono ?_; rintro e w2 ⟨rfl, rfl⟩)
              go_roundw
              case rel => exact ⟨m + 1, by omega, by omega, by go_num, by first | rfl | trivial⟩
              case measure => simp [intOf]; omega
            · obtain rfl : m = E := by omega
              by_cases hend : m < s.size
              · have i1 : (m : Int) < (s.size : Int) := by omega
                have KS := Lib.hid (fun W => signRef s[m] W)
                rw [HNO.out hend] at KS
                go_wp2_with (go_at_call 66; refine (KS.out _).mono ?_; rintro e w2 ⟨rfl, rfl⟩)
                go_quiet (fail)
                go_wp2_with (first
                  | (go_at_call 60; refine (namedRef x _ hx40).mono ?_; rw [HNM.out]; rintro e w3 ⟨rfl, hb3⟩; have HP3 := Lib.hid ((HP.out.drewN nq).below hb3 (HP.out.drewN nq).lt); have HB3 := Lib.hid ((HB.out.drewN nq).below hb3); clear hb3; have a1 := HP3.out.c1; have fz1 := HP3.out.fz 1)
                  | (go_at_call 22; refine (variableRef x _ hx40).mono ?_; rw [HVM.out]; rintro e w4 ⟨rfl, hb4⟩; have HP4 := Lib.hid (HP3.out.below hb4 HP3.out.lt); have HB4 := Lib.hid (HB3.out.below hb4); clear hb4; have a1 := HP4.out.c1; have fz1 := HP4.out.fz 1)
                  | (go_at_call 45; refine (stopGood B s j 0 7 _ (HP4.out)).mono ?_; rintro e w5 ⟨rfl, hp5, hb5⟩; have HP5 := Lib.hid hp5; have HB5 := Lib.hid ((HB4.out).trans hb5); clear hp5 hb5))
                go_ret
                exact EndsR.mk_error (x := x) HGG.out HB5.out rfl ⟨rfl, hx40⟩ (by rw [HPJ.out]; exact HP5.out)
              · have i1 : ¬ (m : Int) < (s.size : Int) := by omega
                go_wp2
                go_quiet (fail)
                go_wp2_with (first
                  | (go_at_call 60; refine (namedRef x _ hx40).mono ?_; rw [HNM.out]; rintro e w3 ⟨rfl, hb3⟩; have HP3 := Lib.hid ((HP.out.drewN nq).below hb3 (HP.out.drewN nq).lt); have HB3 := Lib.hid ((HB.out.drewN nq).below hb3); clear hb3; have a1 := HP3.out.c1; have fz1 := HP3.out.fz 1)
                  | (go_at_call 22; refine (variableRef x _ hx40).mono ?_; rw [HVM.out]; rintro e w4 ⟨rfl, hb4⟩; have HP4 := Lib.hid (HP3.out.below hb4 HP3.out.lt); have HB4 := Lib.hid (HB3.out.below hb4); clear hb4; have a1 := HP4.out.c1; have fz1 := HP4.out.fz 1)
                  | (go_at_call 45; refine (stopGood B s j 0 7 _ (HP4.out)).mono ?_; rintro e w5 ⟨rfl, hp5, hb5⟩; have HP5 := Lib.hid hp5; have HB5 := Lib.hid ((HB4.out).trans hb5); clear hp5 hb5))
                go_ret
                exact EndsR.mk_error (x := x) HGG.out HB5.out rfl ⟨rfl, hx40⟩ (by rw [HPJ.out]; exact HP5.out)
        · have HGG := Lib.hid (show wordR true (rest s k) = .ok (x, rest s E) from by
            rw [hvs] at hG2
            rw [hG2, if_pos]
            exact .inr ⟨rfl, hvm⟩)
          have HNM := Lib.hid hnm
          have HVM := Lib.hid hvm
          subst hvs
          clear hnm hvm hG2
          go_enter Try.func65, Try.ntmps65
          go_wp2_with (first
            | (go_at_call 44; refine (KO.out).mono ?_; rintro e w0 ⟨rfl, rfl⟩)
            | (go_at_call 43; refine (KB.out).mono ?_; rintro e w1 ⟨rfl, hp1, hb1⟩; have HP := Lib.hid hp1; have HB := Lib.hid hb1; have c0 := hp1.c0; have c1 := hp1.c1; clear hp1 hb1))
          go_loopw [5] (fun i wr => ∃ m : Nat, j ≤ m ∧ m ≤ E ∧ i = .int .i64 (m : Int) ∧ wr = w1) (fun i _ => s.size - (intOf i).toNat)
          case atStart => exact ⟨j, Nat.le_refl _, hjE, rfl, by first | rfl | trivial⟩
          case round =>
            obtain ⟨m, hm1, hm2, rfl, rfl⟩ := hrel
            have m0 : (0 : Int) ≤ (m : Int) := by omega
            have m6 : IntKind.i64.wrap ((m : Int) + 1) = (m : Int) + 1 := by rw [IntKind.wrap_i64]; omega
            by_cases hlt : m < E
            · have hms : m < s.size := by omega
              have i1 : (m : Int) < (s.size : Int) := by omega
              have KS := Lib.hid (fun W => signRef s[m] W)
              rw [HSG.out m hms hm1 hlt] at KS
              go_wp2_with (go_at_call 66; refine (KS.out _).mono ?_; rintro e w2 ⟨rfl, rfl⟩)
              go_roundw
              case rel => exact ⟨m + 1, by omega, by omega, by go_num, by first | rfl | trivial⟩
              case measure => simp [intOf]; omega
            · obtain rfl : m = E := by omega
              by_cases hend : m < s.size
              · have i1 : (m : Int) < (s.size : Int) := by omega
                have KS := Lib.hid (fun W => signRef s[m] W)
                rw [HNO.out hend] at KS
                go_wp2_with (go_at_call 66; refine (KS.out _).mono ?_; rintro e w2 ⟨rfl, rfl⟩)
                go_quiet (fail)
                go_wp2_with (first
                  | (go_at_call 60; refine (namedRef x _ hx40).mono ?_; rw [HNM.out]; rintro e w3 ⟨rfl, hb3⟩; have HP3 := Lib.hid ((HP.out.drewN nq).below hb3 (HP.out.drewN nq).lt); have HB3 := Lib.hid ((HB.out.drewN nq).below hb3); clear hb3; have a1 := HP3.out.c1; have fz1 := HP3.out.fz 1)
                  | (go_at_call 22; refine (variableRef x _ hx40).mono ?_; rw [HVM.out]; rintro e w4 ⟨rfl, hb4⟩; have HP4 := Lib.hid (HP3.out.below hb4 HP3.out.lt); have HB4 := Lib.hid (HB3.out.below hb4); clear hb4; have a1 := HP4.out.c1; have fz1 := HP4.out.fz 1))
                go_ret
                exact EndsR.mk_ok HGG.out (HB4.out.setCell (.inl rfl) _) rfl ⟨rfl, hx40⟩ (by rw [HPE.out]; exact HP4.out.set hE0)
              · have i1 : ¬ (m : Int) < (s.size : Int) := by omega
                go_wp2
                go_quiet (fail)
                go_wp2_with (first
                  | (go_at_call 60; refine (namedRef x _ hx40).mono ?_; rw [HNM.out]; rintro e w3 ⟨rfl, hb3⟩; have HP3 := Lib.hid ((HP.out.drewN nq).below hb3 (HP.out.drewN nq).lt); have HB3 := Lib.hid ((HB.out.drewN nq).below hb3); clear hb3; have a1 := HP3.out.c1; have fz1 := HP3.out.fz 1)
                  | (go_at_call 22; refine (variableRef x _ hx40).mono ?_; rw [HVM.out]; rintro e w4 ⟨rfl, hb4⟩; have HP4 := Lib.hid (HP3.out.below hb4 HP3.out.lt); have HB4 := Lib.hid (HB3.out.below hb4); clear hb4; have a1 := HP4.out.c1; have fz1 := HP4.out.fz 1))
                go_ret
                exact EndsR.mk_ok HGG.out (HB4.out.setCell (.inl rfl) _) rfl ⟨rfl, hx40⟩ (by rw [HPE.out]; exact HP4.out.set hE0)
    · have HGG := Lib.hid (show wordR vars (rest s k) = .ok (x, rest s E) from by
        rw [hG2, if_pos]
        exact .inl hnm)
      have HNM := Lib.hid hnm
      clear hnm hG2
      go_enter Try.func65, Try.ntmps65
      go_wp2_with (first
        | (go_at_call 44; refine (KO.out).mono ?_; rintro e w0 ⟨rfl, rfl⟩)
        | (go_at_call 43; refine (KB.out).mono ?_; rintro e w1 ⟨rfl, hp1, hb1⟩; have HP := Lib.hid hp1; have HB := Lib.hid hb1; have c0 := hp1.c0; have c1 := hp1.c1; clear hp1 hb1))
      go_loopw [5] (fun i wr => ∃ m : Nat, j ≤ m ∧ m ≤ E ∧ i = .int .i64 (m : Int) ∧ wr = w1) (fun i _ => s.size - (intOf i).toNat)
      case atStart => exact ⟨j, Nat.le_refl _, hjE, rfl, by first | rfl | trivial⟩
      case round =>
        obtain ⟨m, hm1, hm2, rfl, rfl⟩ := hrel
        have m0 : (0 : Int) ≤ (m : Int) := by omega
        have m6 : IntKind.i64.wrap ((m : Int) + 1) = (m : Int) + 1 := by rw [IntKind.wrap_i64]; omega
        by_cases hlt : m < E
        · have hms : m < s.size := by omega
          have i1 : (m : Int) < (s.size : Int) := by omega
          have KS := Lib.hid (fun W => signRef s[m] W)
          rw [HSG.out m hms hm1 hlt] at KS
          go_wp2_with (go_at_call 66; refine (KS.out _).mono ?_; rintro e w2 ⟨rfl, rfl⟩)
          go_roundw
          case rel => exact ⟨m + 1, by omega, by omega, by go_num, by first | rfl | trivial⟩
          case measure => simp [intOf]; omega
        · obtain rfl : m = E := by omega
          by_cases hend : m < s.size
          · have i1 : (m : Int) < (s.size : Int) := by omega
            have KS := Lib.hid (fun W => signRef s[m] W)
            rw [HNO.out hend] at KS
            go_wp2_with (go_at_call 66; refine (KS.out _).mono ?_; rintro e w2 ⟨rfl, rfl⟩)
            go_quiet (fail)
            go_wp2_with (first
              | (go_at_call 60; refine (namedRef x _ hx40).mono ?_; rw [HNM.out]; rintro e w3 ⟨rfl, hb3⟩; have HP3 := Lib.hid ((HP.out.drewN nq).below hb3 (HP.out.drewN nq).lt); have HB3 := Lib.hid ((HB.out.drewN nq).below hb3); clear hb3; have a1 := HP3.out.c1; have fz1 := HP3.out.fz 1))
            go_ret
            exact EndsR.mk_ok HGG.out (HB3.out.setCell (.inl rfl) _) rfl ⟨rfl, hx40⟩ (by rw [HPE.out]; exact HP3.out.set hE0)
          · have i1 : ¬ (m : Int) < (s.size : Int) := by omega
            go_wp2
            go_quiet (fail)
            go_wp2_with (first
              | (go_at_call 60; refine (namedRef x _ hx40).mono ?_; rw [HNM.out]; rintro e w3 ⟨rfl, hb3⟩; have HP3 := Lib.hid ((HP.out.drewN nq).below hb3 (HP.out.drewN nq).lt); have HB3 := Lib.hid ((HB.out.drewN nq).below hb3); clear hb3; have a1 := HP3.out.c1; have fz1 := HP3.out.fz 1))
            go_ret
            exact EndsR.mk_ok HGG.out (HB3.out.setCell (.inl rfl) _) rfl ⟨rfl, hx40⟩ (by rw [HPE.out]; exact HP3.out.set hE0)
end Go.Proofs.Ytobbjapmdpkogaa
