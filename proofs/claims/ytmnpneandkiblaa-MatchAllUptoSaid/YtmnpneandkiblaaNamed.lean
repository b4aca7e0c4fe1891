/-
  THE WALKS OF fact.Named: it tells what the plain 'named' tells.
-/
import Derived.Test.YtmnpneandkiblaaBase
import Derived.Test.YtmnpneandkiblaaNamesP
namespace Go.Proofs.Ytmnpneandkiblaa
open Go.RowKit

set_option maxHeartbeats 2000000 in
theorem namedCalls (s : Str) (w : World) : Calls Try.prog 64 #[.string s] w fun e w' => e = .returned (.bool (named s)) ∧ w = w' := by
  by_cases h0 : s.size < 1
  · rw [named_empty s h0]
    go_enter Try.func64, Try.ntmps64
    go_wp2
    go_ret
    exact ⟨rfl, rfl⟩
  · by_cases h12 : 12 < s.size
    · rw [named_long s h12]
      have hb : ¬ ((s.size : Int) < 1) := by omega
      go_enter Try.func64, Try.ntmps64
      go_wp2
      go_ret
      exact ⟨rfl, rfl⟩
    · rw [named_ok s (by omega) (by omega)]
      have hb : ¬ ((s.size : Int) < 1) := by omega
      have hb2 : ¬ ((12 : Int) < s.size) := by omega
      go_enter Try.func64, Try.ntmps64
      go_wp2
      go_loop [16, 3, 4, 5] (fun i _ _ _ => ∃ k : Nat, k ≤ s.size ∧ i = .int .i64 k ∧ okFrom 0 s.data.toList = okFrom k (s.data.toList.drop k)) (fun i _ _ _ => s.size - (intOf i).toNat)
      case atStart => exact ⟨0, Nat.zero_le _, rfl, rfl⟩
      case round =>
        obtain ⟨k, hk, rfl, hr⟩ := hrel
        have HR := Lib.hid hr
        clear hr
        by_cases hlt : k < s.size
        · by_cases hk0 : k = 0
          · subst hk0
            rcases byte_cases s[0] with ⟨⟨b1, b2⟩, q1, q2, q3⟩ | ⟨⟨b1, b2⟩, q1, q2, q3⟩ | ⟨⟨b1, b2⟩, q1, q2, q3⟩ | ⟨⟨b1, b2⟩, q1, q2, q3⟩ | ⟨⟨b1, b2⟩, q1, q2, q3⟩ | ⟨⟨b1, b2⟩, q1, q2, q3⟩ | ⟨⟨b1, b2⟩, q1, q2, q3⟩ | ⟨⟨b1, b2⟩, q1, q2, q3⟩ | ⟨⟨b1, b2⟩, q1, q2, q3⟩
            case' inl | inr.inl =>
              have Q := Lib.hid (okFrom_here hlt HR.out (.inl q1))
              clear q1 q2 q3
              go_wp2
              go_round
              case rel => exact ⟨1, by omega, by go_num, Q.out⟩
              case measure => simp [intOf]; omega
            all_goals
              have Q := Lib.hid (okFrom_bad hlt HR.out q1 (.inl rfl))
              clear q1 q2 q3
              try have z1 : decide ((s[0].toNat : Int) ≤ 57) = false := decide_eq_false (by omega)
              try have z2 : decide ((s[0].toNat : Int) ≤ 122) = false := decide_eq_false (by omega)
              try have z3 : ((s[0].toNat : Int) != 95) = true := bne_iff_ne.2 (by omega)
              try have z4 : ((s[0].toNat : Int) != 95) = false := bne_eq_false_iff_eq.2 (by omega)
              go_wp2
              go_ret
              exact ⟨ret_bool Q.out.symm, rfl⟩
          · have hkb : ((k : Int) == 0) = false := by simpa using hk0
            rcases byte_cases s[k] with ⟨⟨b1, b2⟩, q1, q2, q3⟩ | ⟨⟨b1, b2⟩, q1, q2, q3⟩ | ⟨⟨b1, b2⟩, q1, q2, q3⟩ | ⟨⟨b1, b2⟩, q1, q2, q3⟩ | ⟨⟨b1, b2⟩, q1, q2, q3⟩ | ⟨⟨b1, b2⟩, q1, q2, q3⟩ | ⟨⟨b1, b2⟩, q1, q2, q3⟩ | ⟨⟨b1, b2⟩, q1, q2, q3⟩ | ⟨⟨b1, b2⟩, q1, q2, q3⟩
            case' inl | inr.inl | inr.inr.inl | inr.inr.inr.inl =>
              have Q := Lib.hid (okFrom_here hlt HR.out (.inr ⟨hk0, q3⟩))
              clear q1 q2 q3 hk0
              try have z1 : decide ((s[k].toNat : Int) ≤ 57) = false := decide_eq_false (by omega)
              try have z2 : decide ((s[k].toNat : Int) ≤ 122) = false := decide_eq_false (by omega)
              try have z3 : ((s[k].toNat : Int) != 95) = true := bne_iff_ne.2 (by omega)
              try have z4 : ((s[k].toNat : Int) != 95) = false := bne_eq_false_iff_eq.2 (by omega)
              go_wp2
              go_round
              case rel => exact ⟨k + 1, by omega, by go_num, Q.out⟩
              case measure => simp [intOf]; omega
            all_goals
              have Q := Lib.hid (okFrom_bad hlt HR.out q1 (.inr q3))
              clear q1 q2 q3 hk0
              try have z1 : decide ((s[k].toNat : Int) ≤ 57) = false := decide_eq_false (by omega)
              try have z2 : decide ((s[k].toNat : Int) ≤ 122) = false := decide_eq_false (by omega)
              try have z3 : ((s[k].toNat : Int) != 95) = true := bne_iff_ne.2 (by omega)
              try have z4 : ((s[k].toNat : Int) != 95) = false := bne_eq_false_iff_eq.2 (by omega)
              go_wp2
              go_ret
              exact ⟨ret_bool Q.out.symm, rfl⟩
        · go_wp2
          go_ret
          refine ⟨?_, rfl⟩
          rw [HR.out, drop_bytes_end s k (by omega)]
          rfl
end Go.Proofs.Ytmnpneandkiblaa
