/-
  THE WALKS OF cororef1.Named.
-/
import Derived.Test.YtobbjapmdpkogaaRef1Word
import Derived.Test.YtobbjapmdpkogaaNames2
namespace Go.Proofs.Ytobbjapmdpkogaa
open Go.RowKit

set_option maxHeartbeats 2000000 in
theorem namedRef (s : Str) (w : World) (hsz : s.size ≤ 1099511627776) : Calls Try.prog 60 #[.string s] w fun e w' => e = .returned (.bool (named s)) ∧ Below w.heap.size w w' := by
  have K := Lib.hid (wordRef s w hsz)
  have HN := Lib.hid (named_word s)
  have e : s.data.toList.length = s.size := by rw [Array.length_toList]; rfl
  obtain ⟨r, hr⟩ : ∃ r, (s.data.toList.all signB && (decide (0 < s.size) && decide (s.size ≤ 12))) = r := ⟨_, rfl⟩
  rw [hr] at K HN
  cases hr1 : r
  · subst hr1
    clear hr
    go_enter Try.func60, Try.ntmps60
    go_wp2_with (go_at_call 52; refine (K.out).mono ?_; rintro e w' ⟨rfl, hb⟩)
    go_ret
    exact ⟨ret_bool (by rw [HN.out]; rfl), hb⟩
  · subst hr1
    have h0 : 0 < s.size := by
      simp only [Bool.and_eq_true, decide_eq_true_eq] at hr
      exact hr.2.1
    have HL := Lib.hid (show named s = smallB s[0] by
      rw [HN.out]
      have := drop_bytes s 0 h0
      rw [List.drop_zero] at this
      rw [this]; rfl)
    have KS := Lib.hid (fun W => smallRef s[0] W)
    clear hr e
    go_enter Try.func60, Try.ntmps60
    go_wp2_with (first
      | (go_at_call 52; refine (K.out).mono ?_; rintro e w' ⟨rfl, hb⟩; have HB := Lib.hid hb; clear hb)
      | (go_at_call 69; refine (KS.out _).mono ?_; rintro e w'' ⟨rfl, rfl⟩))
    go_ret
    exact ⟨ret_bool HL.out.symm, HB.out⟩

end Go.Proofs.Ytobbjapmdpkogaa
