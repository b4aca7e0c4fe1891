/-
  THE WALK OF cororef1.Variable.
-/
import Derived.Test.YtobbjapmdpkogaaRef1Named
namespace Go.Proofs.Ytobbjapmdpkogaa
open Go.RowKit

theorem variable_word (s : Str) : variableS s = (s.data.toList.all signB && (decide (0 < s.size) && decide (s.size ≤ 12)) && (match s.data.toList with | [] => false | c :: _ => upperB c)) := by
  have e : s.data.toList.length = s.size := by rw [Array.length_toList]; rfl
  unfold variableS varL
  rw [← e]
  cases s.data.toList with
  | nil => simp
  | cons c cs =>
    simp only [List.all_cons, List.length_cons]
    cases hu : upperB c
    · simp
    · have : signB c = true := by simp [signB, hu]
      rw [this]
      have h0 : decide (0 < cs.length + 1) = true := by simp
      rw [h0]
      cases cs.all signB <;> simp
set_option maxHeartbeats 2000000 in
theorem variableRef (s : Str) (w : World) (hsz : s.size ≤ 1099511627776) : Calls Try.prog 22 #[.string s] w fun e w' => e = .returned (.bool (variableS s)) ∧ Below w.heap.size w w' := by
  have K := Lib.hid (wordRef s w hsz)
  have HN := Lib.hid (variable_word s)
  have e : s.data.toList.length = s.size := by rw [Array.length_toList]; rfl
  obtain ⟨r, hr⟩ : ∃ r, (s.data.toList.all signB && (decide (0 < s.size) && decide (s.size ≤ 12))) = r := ⟨_, rfl⟩
  rw [hr] at K HN
  cases hr1 : r
  · subst hr1
    clear hr
    go_enter Try.func22, Try.ntmps22
    go_wp2_with (go_at_call 52; refine (K.out).mono ?_; rintro e w' ⟨rfl, hb⟩)
    go_ret
    exact ⟨ret_bool (by rw [HN.out]; rfl), hb⟩
  · subst hr1
    have h0 : 0 < s.size := by
      simp only [Bool.and_eq_true, decide_eq_true_eq] at hr
      exact hr.2.1
    have HL := Lib.hid (show variableS s = upperB s[0] by
      rw [HN.out]
      have := drop_bytes s 0 h0
      rw [List.drop_zero] at this
      rw [this]; rfl)
    clear hr e
    have h0' : (0 : Int) < (s.size : Int) := by omega
    by_cases h1 : 65 ≤ s[0].toNat
    · have i1 : (65 : Int) ≤ (s[0].toNat : Int) := by omega
      by_cases h2 : s[0].toNat ≤ 90
      · have i2 : (s[0].toNat : Int) ≤ 90 := by omega
        have HU := Lib.hid (show upperB s[0] = true from decide_eq_true ⟨h1, h2⟩)
        clear h1 h2
        go_enter Try.func22, Try.ntmps22
        go_wp2_with (go_at_call 52; refine (K.out).mono ?_; rintro e w' ⟨rfl, hb⟩; have HB := Lib.hid hb; clear hb)
        go_ret
        exact ⟨ret_bool (by rw [HL.out, HU.out] <;> first | rfl | exact decide_eq_true i2 | exact decide_eq_false (by omega)), HB.out⟩
      · have i2 : ¬ ((s[0].toNat : Int) ≤ 90) := by omega
        have HU := Lib.hid (show upperB s[0] = false from decide_eq_false (fun h => h2 h.2))
        clear h1 h2
        go_enter Try.func22, Try.ntmps22
        go_wp2_with (go_at_call 52; refine (K.out).mono ?_; rintro e w' ⟨rfl, hb⟩; have HB := Lib.hid hb; clear hb)
        go_ret
        exact ⟨ret_bool (by rw [HL.out, HU.out] <;> first | rfl | exact decide_eq_true i2 | exact decide_eq_false (by omega)), HB.out⟩
    · have i1 : ¬ ((65 : Int) ≤ (s[0].toNat : Int)) := by omega
      have HU := Lib.hid (show upperB s[0] = false from decide_eq_false (fun h => h1 h.1))
      clear h1
      go_enter Try.func22, Try.ntmps22
      go_wp2_with (go_at_call 52; refine (K.out).mono ?_; rintro e w' ⟨rfl, hb⟩; have HB := Lib.hid hb; clear hb)
      go_ret
      exact ⟨ret_bool (by rw [HL.out, HU.out]), HB.out⟩
end Go.Proofs.Ytobbjapmdpkogaa
