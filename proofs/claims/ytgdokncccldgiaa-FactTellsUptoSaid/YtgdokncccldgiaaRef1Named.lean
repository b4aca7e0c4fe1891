/-
  THE WALKS OF cororef1.Named and cororef1.Wrong.
-/
import Derived.Test.YtgdokncccldgiaaRef1Word
import Derived.Test.YtgdokncccldgiaaNames2
import Derived.Test.YtgdokncccldgiaaIn
namespace Go.Proofs.Ytgdokncccldgiaa
open Go.RowKit

set_option maxHeartbeats 2000000 in
theorem namedRef (s : Str) (w : World) (hsz : s.size ≤ 1099511627776) : Calls Try.prog 40 #[.string s] w fun e w' => e = .returned (.bool (named s)) ∧ Below w.heap.size w w' := by
  have K := Lib.hid (wordRef s w hsz)
  have HN := Lib.hid (named_word s)
  have e : s.data.toList.length = s.size := by rw [Array.length_toList]; rfl
  obtain ⟨r, hr⟩ : ∃ r, (s.data.toList.all signB && (decide (0 < s.size) && decide (s.size ≤ 12))) = r := ⟨_, rfl⟩
  rw [hr] at K HN
  cases hr1 : r
  · subst hr1
    clear hr
    go_enter Try.func40, Try.ntmps40
    go_wp2_with (go_at_call 89; refine (K.out).mono ?_; rintro e w' ⟨rfl, hb⟩)
    go_ret
    exact ⟨ret_bool (by rw [HN.out]; rfl), hb⟩
  · subst hr1
    have h0 : 0 < s.size := by
      simp only [Bool.and_eq_true, decide_eq_true_eq] at hr
      exact hr.2.1
    have HL := Lib.hid (show named s = smallB s[0] by
      rw [HN.out]
      have := drop_bytes s 0 h0
      rw [List.drop_zero] at this
      rw [this]; rfl)
    have KS := Lib.hid (fun W => smallRef s[0] W)
    clear hr e
    go_enter Try.func40, Try.ntmps40
    go_wp2_with (first
      | (go_at_call 89; refine (K.out).mono ?_; rintro e w' ⟨rfl, hb⟩; have HB := Lib.hid hb; clear hb)
      | (go_at_call 97; refine (KS.out _).mono ?_; rintro e w'' ⟨rfl, rfl⟩))
    go_ret
    exact ⟨ret_bool HL.out.symm, HB.out⟩

set_option maxHeartbeats 2000000 in
theorem wrongRef {S : Nat → Prop} (f : PFact) (av : Value) (w : World) (h : RdStrs S w av f.args) (n0 : f.name.size ≤ 1099511627776) (n1 : f.args.length ≤ 1073741824) (n2 : ∀ x ∈ f.args, x.size ≤ 1099511627776) :
    Calls Try.prog 42 #[.agg #[.string f.name, av]] w fun e w' => e = .returned (.int .i64 (wrongF f)) ∧ Below w.heap.size w w' := by
  obtain ⟨a, c, rfl, -, -, -⟩ := id h.form
  have H := Lib.hid (fun W (ha : Agree (fun _ => True) w W) i x (hx : f.args[i]? = some x) => RdStrs.at ((h.more RStr.steady (S' := fun _ => True) (fun _ _ _ => trivial)).agree RStr.steady ha) hx)
  have N2 := Lib.hid n2
  have K0 := Lib.hid (namedRef f.name (w.alloc (.cells #[.string f.name, .slice a f.args.length c] 57)) n0)
  have KN := Lib.hid (fun (x : Str) (hx : x.size ≤ 1099511627776) W => namedRef x W hx)
  have c0 : (w.alloc (.cells #[.string f.name, .slice a f.args.length c] 57)).cell? ⟨w.heap.size, 1, none⟩ = some (.slice a f.args.length c) := by simp
  have hsz : w.heap.size < (w.alloc (.cells #[.string f.name, .slice a f.args.length c] 57)).heap.size := by simp
  have HB0 := Lib.hid ((Below.refl w.heap.size w).alloc (Nat.le_refl _) (.cells #[.string f.name, .slice a f.args.length c] 57))
  have HW : Hid (wrongF f = if !named f.name then 7 else if 4 < f.args.length then 5 else if f.args.all named then 0 else 7) := Lib.hid (show wrongF f = if !named f.name then 7 else if 4 < f.args.length then 5 else if f.args.all named then 0 else 7 from rfl)
  clear h n2
  obtain ⟨q, hq⟩ : ∃ q, named f.name = q := ⟨_, rfl⟩
  rw [hq] at K0 HW
  clear hq
  cases q
  · go_enter Try.func42, Try.ntmps42
    go_wp2_with (go_at_call 40; refine (K0.out).mono ?_; rintro e w1 ⟨rfl, hb1⟩)
    go_ret
    exact ⟨ret_int (by rw [HW.out]; rfl), HB0.out.trans (hb1.mono (by simp))⟩
  · by_cases h4 : 4 < f.args.length
    · have HE := Lib.hid (show wrongF f = 5 by rw [HW.out]; simp [h4])
      have i1 : (4 : Int) < (f.args.length : Int) := by omega
      go_enter Try.func42, Try.ntmps42
      go_wp2_with (go_at_call 40; refine (K0.out).mono ?_; rintro e w1 ⟨rfl, hb1⟩; have d0 := (cell_below hb1 hsz 1).trans c0)
      go_ret
      exact ⟨ret_int HE.out.symm, HB0.out.trans (hb1.mono (by simp))⟩
    · have HE := Lib.hid (show wrongF f = if f.args.all named then 0 else 7 by rw [HW.out]; simp [h4])
      have i1 : ¬ (4 : Int) < (f.args.length : Int) := by omega
      go_enter Try.func42, Try.ntmps42
      go_wp2_with (go_at_call 40; refine (K0.out).mono ?_; rintro e w1 ⟨rfl, hb1⟩; have d0 := (cell_below hb1 hsz 1).trans c0; have HB1 := Lib.hid (HB0.out.trans (hb1.mono (by simp))); clear hb1)
      go_loopw [16, 4] (fun i _ wr => ∃ k : Nat, k ≤ f.args.length ∧ i = .int .i64 k ∧ Hid (f.args.all named = (f.args.drop k).all named) ∧ Hid (Below w.heap.size w wr)) (fun i _ _ => f.args.length - (intOf i).toNat)
      case atStart => exact ⟨0, Nat.zero_le _, rfl, Lib.hid rfl, HB1⟩
      case round =>
        obtain ⟨k, hk, rfl, HR, HB⟩ := hrel
        by_cases hlt : k < f.args.length
        · obtain ⟨x, hx⟩ : ∃ x, f.args[k]? = some x := ⟨_, List.getElem?_eq_getElem hlt⟩
          obtain ⟨b1, o1, rfl, -, -, hc1⟩ := H.out wr (Below.agree HB.out) k x hx
          have KX := Lib.hid (KN.out x (N2.out x (List.mem_of_getElem? hx)) wr)
          have HD := Lib.hid (show (f.args.drop k).all named = (named x && (f.args.drop (k + 1)).all named) by rw [drop_cons hx]; rfl)
          clear hx
          cases hs : named x
          · rw [hs] at KX HD
            have HF := Lib.hid (show wrongF f = 7 by rw [HE.out, HR.out, HD.out]; rfl)
            clear hs
            go_wp2_with (go_at_call 40; refine (KX.out).mono ?_; rintro e w2 ⟨rfl, hb2⟩)
            go_ret
            exact ⟨ret_int HF.out.symm, HB.out.trans (hb2.mono HB.out.size)⟩
          · rw [hs] at KX HD
            have HF := Lib.hid (HR.out.trans HD.out)
            clear hs
            go_wp2_with (go_at_call 40; refine (KX.out).mono ?_; rintro e w2 ⟨rfl, hb2⟩; have HB2 := Lib.hid (HB.out.trans (hb2.mono HB.out.size)); clear hb2)
            go_roundw
            case rel => exact ⟨k + 1, by omega, by go_num, Lib.hid (by rw [HF.out]; simp), HB2.out⟩
            case measure => simp [intOf]; omega
        · have HF := Lib.hid (show wrongF f = 0 by rw [HE.out, HR.out, drop_end (by omega : f.args.length ≤ k)]; rfl)
          go_wp2
          go_ret
          exact ⟨ret_int HF.out.symm, HB.out⟩
end Go.Proofs.Ytgdokncccldgiaa
