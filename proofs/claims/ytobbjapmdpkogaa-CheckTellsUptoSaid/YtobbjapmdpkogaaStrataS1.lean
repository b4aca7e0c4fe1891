/-
  THE WALK OF cororef1.Strata's closure: is it a head?
-/
import Derived.Test.YtobbjapmdpkogaaCheckR3
import Derived.Test.YtobbjapmdpkogaaMapP
import Derived.Test.YtobbjapmdpkogaaCheckW4
namespace Go.Proofs.Ytobbjapmdpkogaa
open Go.RowKit Go.Maps

set_option maxRecDepth 100000 in
set_option maxHeartbeats 4000000 in
theorem headRef {S : Nat → Prop} (s : Str) (C n : Nat) (ha : Option Addr) (hc : Nat) (H : List Str) (w : World) (hn : H.length = n) (h : Blk w C 34 #[.slice ha n hc]) (hr : RdStrs S w (.slice ha n hc) H) (h1 : n ≤ 1048576) :
    Calls Try.prog 39 #[.string s, .pointer (some ⟨C, 0, none⟩)] w fun e w' => e = .returned (.bool (memS s H)) ∧ w = w' := by
  subst hn
  have HR := Lib.hid hr
  have c0 := h.cell 0
  simp only [List.getElem?_toArray, List.getElem?_cons_zero] at c0
  clear h hr
  go_enter Try.func39, Try.ntmps39
  go_wp2
  go_loopw [8] (fun i wr => ∃ k : Nat, k ≤ H.length ∧ i = .int .i64 k ∧ wr = w ∧ Hid (memS s (H.take k) = false)) (fun i _ => H.length - (intOf i).toNat)
  case atStart => exact ⟨0, Nat.zero_le _, rfl, rfl, Lib.hid rfl⟩
  case round =>
    obtain ⟨k, hk, rfl, rfl, HM⟩ := hrel
    by_cases hlt : k < H.length
    · obtain ⟨x, hx⟩ : ∃ x, H[k]? = some x := ⟨_, List.getElem?_eq_getElem hlt⟩
      obtain ⟨b1, o1, rfl, -, -, d0⟩ := RdStrs.at HR.out hx
      have hmm : x ∈ H := List.mem_of_getElem? hx
      have HM2 := Lib.hid (show decide (s = x) = false → memS s (H.take (k + 1)) = false from fun h => by
        rw [List.take_add_one, hx]
        show memS s (H.take k ++ [x]) = false
        rw [memS_snoc, HM.out, h]; rfl)
      by_cases e : s = x
      · have g1 : (x.toList == s.toList) = true := by rw [beq_toList]; exact decide_eq_true e.symm
        have HF := Lib.hid (show memS s H = true from (memS_iff _ _).2 (by rw [e]; exact hmm))
        clear hx e hmm HM2
        go_wp2
        go_ret
        exact ⟨ret_bool HF.out.symm, by trivial⟩
      · have g1 : (x.toList == s.toList) = false := by rw [beq_toList]; exact decide_eq_false (fun h => e h.symm)
        have HM3 := Lib.hid (HM2.out (decide_eq_false e))
        clear hx e hmm HM2
        go_wp2
        go_roundw
        case rel => exact ⟨k + 1, by omega, by go_num, by first | rfl | trivial, HM3⟩
        case measure => simp [intOf]; omega
    · have HF := Lib.hid (show memS s H = false from by have := HM.out; rwa [List.take_of_length_le (by omega)] at this)
      go_wp2
      go_ret
      exact ⟨ret_bool HF.out.symm, by trivial⟩
end Go.Proofs.Ytobbjapmdpkogaa
