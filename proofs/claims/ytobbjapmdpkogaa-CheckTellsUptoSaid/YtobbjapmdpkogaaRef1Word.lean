/-
  THE WALKS OF cororef1.Small, Sign.
-/
import Derived.Test.YtobbjapmdpkogaaBase
import Derived.Test.YtobbjapmdpkogaaNamesP
import Derived.Lib.ConvBytes
namespace Go.Proofs.Ytobbjapmdpkogaa
open Go.RowKit

set_option maxHeartbeats 2000000 in
theorem smallRef (c : UInt8) (w : World) : Calls Try.prog 69 #[.int .u8 c.toNat] w fun e w' => e = .returned (.bool (smallB c)) ∧ w = w' := by
  rcases byte_cases c with ⟨⟨b1, b2⟩, q1, q2, q3⟩ | ⟨⟨b1, b2⟩, q1, q2, q3⟩ | ⟨⟨b1, b2⟩, q1, q2, q3⟩ | ⟨⟨b1, b2⟩, q1, q2, q3⟩ | ⟨⟨b1, b2⟩, q1, q2, q3⟩ | ⟨⟨b1, b2⟩, q1, q2, q3⟩ | ⟨⟨b1, b2⟩, q1, q2, q3⟩ | ⟨⟨b1, b2⟩, q1, q2, q3⟩ | ⟨⟨b1, b2⟩, q1, q2, q3⟩
  all_goals
    rw [q1]
    clear q1 q2 q3
    generalize (c.toNat : Int) = n at *
    try have z1 : decide (97 ≤ n) = true := decide_eq_true (by omega)
    try have z1 : decide (97 ≤ n) = false := decide_eq_false (by omega)
    try have z2 : decide (n ≤ 122) = true := decide_eq_true (by omega)
    try have z2 : decide (n ≤ 122) = false := decide_eq_false (by omega)
    try have z3 : decide (48 ≤ n) = true := decide_eq_true (by omega)
    try have z3 : decide (48 ≤ n) = false := decide_eq_false (by omega)
    try have z4 : decide (n ≤ 57) = true := decide_eq_true (by omega)
    try have z4 : decide (n ≤ 57) = false := decide_eq_false (by omega)
    go_enter Try.func69, Try.ntmps69
    go_wp2
    go_ret
    exact ⟨rfl, rfl⟩

set_option maxHeartbeats 2000000 in
theorem signRef (c : UInt8) (w : World) : Calls Try.prog 66 #[.int .u8 c.toNat] w fun e w' => e = .returned (.bool (signB c)) ∧ w = w' := by
  have K := Lib.hid (fun W => smallRef c W)
  rcases byte_cases c with ⟨⟨b1, b2⟩, q1, q2, q3⟩ | ⟨⟨b1, b2⟩, q1, q2, q3⟩ | ⟨⟨b1, b2⟩, q1, q2, q3⟩ | ⟨⟨b1, b2⟩, q1, q2, q3⟩ | ⟨⟨b1, b2⟩, q1, q2, q3⟩ | ⟨⟨b1, b2⟩, q1, q2, q3⟩ | ⟨⟨b1, b2⟩, q1, q2, q3⟩ | ⟨⟨b1, b2⟩, q1, q2, q3⟩ | ⟨⟨b1, b2⟩, q1, q2, q3⟩
  all_goals
    rw [q3]
    rw [q1] at K
    clear q1 q2 q3
    generalize (c.toNat : Int) = n at *
    try have z1 : decide (65 ≤ n) = true := decide_eq_true (by omega)
    try have z1 : decide (65 ≤ n) = false := decide_eq_false (by omega)
    try have z2 : decide (n ≤ 90) = true := decide_eq_true (by omega)
    try have z2 : decide (n ≤ 90) = false := decide_eq_false (by omega)
    try have z3 : (n == 95) = true := beq_iff_eq.2 (by omega)
    try have z3 : (n == 95) = false := beq_eq_false_iff_ne.2 (by omega)
    try have z4 : decide (n = 95) = true := decide_eq_true (by omega)
    try have z4 : decide (n = 95) = false := decide_eq_false (by omega)
    go_enter Try.func66, Try.ntmps66
    go_wp2_with (go_at_call 69; refine (K.out _).mono ?_; rintro e w' ⟨rfl, rfl⟩)
    go_ret
    exact ⟨rfl, rfl⟩

theorem bytesWorld_below (w : World) (e : TypeId) (s : ByteArray) : Below w.heap.size w (Lib.bytesWorld w e s) :=
  ⟨rfl, rfl, rfl, by rw [Lib.bytesWorld_size]; omega, fun k hk => Lib.bytesWorld_at_old w e s k hk⟩
theorem bytes_getD (s : Str) {k : Nat} (h : k < s.size) : s.data.toList.getD k 0 = s[k] := by
  have e : s.data.toList.length = s.size := by rw [Array.length_toList]; rfl
  rw [List.getD_eq_getElem?_getD, List.getElem?_eq_getElem (by omega)]
  rfl

set_option maxRecDepth 100000 in
set_option maxHeartbeats 2000000 in
theorem wordRef (s : Str) (w : World) (hsz : s.size ≤ 1099511627776) : Calls Try.prog 52 #[.string s] w fun e w' => e = .returned (.bool (s.data.toList.all signB && (decide (0 < s.size) && decide (s.size ≤ 12)))) ∧ Below w.heap.size w w' := by
  have hc := Lib.run_convert_string_bytes (P := Try.prog) w 9 86 5 s Try.underlying9 Try.underlying86 Try.underlying5
  have HB := Lib.hid (bytesWorld_below w 5 s)
  have HC := Lib.hid (fun j (hj : j < s.size) => Lib.bytesWorld_cell w 5 s j hj)
  generalize Lib.bytesWorld w 5 s = w0 at *
  generalize grownCap w s.size 0 5 = C at *
  obtain ⟨r, hr⟩ : ∃ r, s.data.toList.all signB = r := ⟨_, rfl⟩
  rw [hr]
  have HQ := Lib.hid hr
  clear hr
  go_enter Try.func52, Try.ntmps52
  go_wp2
  clear hc
  go_loop [8, 4] (fun i _ => ∃ k : Nat, k ≤ s.size ∧ i = .int .i64 k ∧ Hid (r = (s.data.toList.drop k).all signB)) (fun i _ => s.size - (intOf i).toNat)
  case atStart => exact ⟨0, Nat.zero_le _, rfl, Lib.hid HQ.out.symm⟩
  case round =>
    obtain ⟨k, hk, rfl, HR⟩ := hrel
    by_cases hlt : k < s.size
    · have hcell := HC.out k hlt
      rw [bytes_getD s hlt] at hcell
      have HD := Lib.hid (show (s.data.toList.drop k).all signB = (signB s[k] && (s.data.toList.drop (k + 1)).all signB) by rw [drop_bytes s k hlt]; rfl)
      have K := Lib.hid (fun W => signRef s[k] W)
      generalize s[k] = c at *
      cases hs : signB c
      · rw [hs] at K HD
        have HE := Lib.hid (HR.out.trans HD.out)
        clear hs
        go_wp2_with (go_at_call 66; refine (K.out _).mono ?_; rintro e w' ⟨rfl, rfl⟩)
        go_ret
        exact ⟨ret_bool (by rw [HE.out]; rfl), HB.out⟩
      · rw [hs] at K HD
        have HE := Lib.hid (HR.out.trans HD.out)
        clear hs
        go_wp2_with (go_at_call 66; refine (K.out _).mono ?_; rintro e w' ⟨rfl, rfl⟩)
        go_round
        case rel => exact ⟨k + 1, by omega, by go_num, Lib.hid (by rw [HE.out]; simp)⟩
        case measure => simp [intOf]; omega
    · have HE := Lib.hid (show r = true by rw [HR.out, drop_bytes_end s k (by omega)]; rfl)
      by_cases h0 : 0 < s.size
      · by_cases h12 : s.size ≤ 12
        · have i1 : (0 : Int) < (s.size : Int) := by omega
          have i2 : (s.size : Int) ≤ 12 := by omega
          go_wp2
          go_ret
          exact ⟨ret_bool (by first | (rw [HE.out]; done) | (rw [HE.out]; simp [h0, h12]; done) | (simp [h0, h12]; done)), HB.out⟩
        · have i1 : (0 : Int) < (s.size : Int) := by omega
          have i2 : ¬ (s.size : Int) ≤ 12 := by omega
          go_wp2
          go_ret
          exact ⟨ret_bool (by first | (rw [HE.out]; done) | (rw [HE.out]; simp [h0, h12]; done) | (simp [h0, h12]; done)), HB.out⟩
      · have i1 : ¬ (0 : Int) < (s.size : Int) := by omega
        go_wp2
        go_ret
        exact ⟨ret_bool (by first | (rw [HE.out]; done) | (rw [HE.out]; simp [h0]; done) | (simp [h0]; done)), HB.out⟩

theorem named_word (s : Str) : named s = (s.data.toList.all signB && (decide (0 < s.size) && decide (s.size ≤ 12)) && (match s.data.toList with | [] => false | c :: _ => smallB c)) := by
  have e : s.data.toList.length = s.size := by rw [Array.length_toList]; rfl
  unfold named nameL
  rw [← e]
  cases s.data.toList with
  | nil => simp
  | cons c cs =>
    rw [Bool.eq_iff_iff]
    simp only [List.all_cons, List.length_cons, Bool.and_eq_true, decide_eq_true_eq, signB, Bool.or_eq_true]
    constructor
    · rintro ⟨h1, h2, h3⟩
      exact ⟨⟨⟨.inl (.inl h2), h3⟩, by omega, h1⟩, h2⟩
    · rintro ⟨⟨⟨-, h3⟩, -, h1⟩, h2⟩
      exact ⟨h1, h2, h3⟩
end Go.Proofs.Ytobbjapmdpkogaa
