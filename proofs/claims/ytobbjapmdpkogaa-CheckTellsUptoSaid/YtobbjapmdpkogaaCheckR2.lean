/-
  THE WALKS OF cororef1.Bound and WrongBody.
-/
import Derived.Test.YtobbjapmdpkogaaCheckR1
namespace Go.Proofs.Ytobbjapmdpkogaa
open Go.RowKit Go.Maps

theorem memS_append (v : Str) : ∀ l m : List Str, memS v (l ++ m) = (memS v l || memS v m)
  | [], m => by simp [memS]
  | x :: l, m => by rw [List.cons_append, memS, memS, memS_append v l m, Bool.or_assoc]
theorem memS_snoc (v u : Str) (l : List Str) : memS v (l ++ [u]) = (memS v l || decide (v = u)) := by rw [memS_append]; simp [memS]
theorem memS_held (v : Str) (l : List PAtom) (a : PAtom) : memS v (heldOf (l ++ [a])) = (memS v (heldOf l) || (!a.neg && memS v (varsOf a))) := by
  rw [heldOf_snoc]
  cases a.neg
  · simp [memS_append]
  · simp
def boundIn (held : List Str) (vs : List Str) : Bool := vs.all fun v => memS v held

set_option maxRecDepth 100000 in
set_option maxHeartbeats 8000000 in
theorem boundRef {S T : Nat → Prop} (x : PAtom) (tv : Value) (l : List PAtom) (lv : Value) (w : World) (h : RdTerms S w tv x.terms) (hl : RdAtoms T w lv l)
    (n1 : x.terms.length ≤ 1048576) (n2 : ∀ t ∈ x.terms, t.name.size ≤ 1048576) (m0 : l.length ≤ 1048576) (m1 : ∀ a ∈ l, a.terms.length ≤ 1048576) (m2 : ∀ a ∈ l, ∀ t ∈ a.terms, t.name.size ≤ 1048576) :
    Calls Try.prog 36 #[.agg #[.bool x.neg, .string x.name, tv], lv] w fun e w' => e = .returned (.bool (boundIn (heldOf l) (varsOf x))) ∧ Below w.heap.size w w' := by
  obtain ⟨a, c, rfl, -, -, -⟩ := id h.form
  obtain ⟨la, lc, rfl, -, -, -⟩ := id hl.form
  have H := Lib.hid h
  have HL := Lib.hid hl
  have M1 := Lib.hid m1
  have M2 := Lib.hid m2
  obtain ⟨W0, hW0⟩ : ∃ W0, w.alloc (.cells #[.bool x.neg, .string x.name, .slice a x.terms.length c] 30) = W0 := ⟨_, rfl⟩
  have HB0 := Lib.hid (show Below w.heap.size w W0 from by rw [← hW0]; exact (Below.refl _ _).alloc (Nat.le_refl _) _)
  have HA0 := Lib.hid (show Blk W0 w.heap.size 30 #[.bool x.neg, .string x.name, .slice a x.terms.length c] from by rw [← hW0]; exact Blk.new w _ _)
  have c0 := HA0.out.cell 0
  have c1 := HA0.out.cell 1
  have c2 := HA0.out.cell 2
  simp only [List.getElem?_toArray, List.getElem?_cons_zero, List.getElem?_cons_succ] at c0 c1 c2
  have KV := Lib.hid (varsRef x _ W0 (h.up HB0.out) n1 n2)
  have hvl : (varsOf x).length ≤ 1048576 := by have := varsF_length x.terms []; simp at this; show (varsF [] x.terms).length ≤ _; omega
  clear h hl n2 m1 m2
  generalize varsOf x = vs at *
  go_enter Try.func36, Try.ntmps36
  go_wp2_with (go_at_call 13; refine (KV.out).mono ?_; rintro e w2 ⟨⟨v2, rfl, hv2⟩, hb2⟩; have HBF := Lib.hid (HB0.out.trans (hb2.mono HB0.out.size)); have HV := Lib.hid ((hv2.read RStr.steady).more (S' := fun _ => True) RStr.steady (fun _ _ _ => trivial)); obtain ⟨va, vc, rfl, -, -, -⟩ := id (hv2.read RStr.steady).form; clear hb2 hv2)
  clear KV HB0 HA0 c0 c1 c2
  have HE0 := Lib.hid (show (∀ v ∈ vs.take 0, memS v (heldOf l) = true) from by simp)
  go_loopw [15] (fun i wr => ∃ k : Nat, k ≤ vs.length ∧ i = .int .i64 k ∧ Hid (∀ v ∈ vs.take k, memS v (heldOf l) = true) ∧ Hid (Below w.heap.size w wr) ∧ Hid (RdStrs (fun _ => True) wr (.slice va vs.length vc) vs)) (fun i _ => vs.length - (intOf i).toNat)
  case atStart => exact ⟨0, Nat.zero_le _, rfl, HE0, HBF, HV⟩
  case round =>
    clear HE0 HBF HV
    obtain ⟨k, hk, rfl, HE, HB, HV⟩ := hrel
    by_cases hlt : k < vs.length
    · obtain ⟨v, hv⟩ : ∃ v, vs[k]? = some v := ⟨_, List.getElem?_eq_getElem hlt⟩
      obtain ⟨b1, o1, rfl, -, -, d0⟩ := RdStrs.at HV.out hv
      have HVV := Lib.hid hv
      clear hv
      have HM0 := Lib.hid (show memS v (heldOf (l.take 0)) = false from rfl)
      go_wp2
      clear d0
      go_loopw [21, 7] (fun i b wr => ∃ (j : Nat) (q : Bool), j ≤ l.length ∧ i = .int .i64 j ∧ b = .bool q ∧ Hid (memS v (heldOf (l.take j)) = q) ∧ Hid (Below w.heap.size w wr) ∧ Hid (RdStrs (fun _ => True) wr (.slice (some ⟨b1, o1, none⟩) vs.length vc) vs)) (fun i _ _ => l.length - (intOf i).toNat)
      case atStart => exact ⟨0, false, Nat.zero_le _, rfl, rfl, HM0, HB, HV⟩
      case round =>
        clear HM0 HB HV
        obtain ⟨j, q, hj, rfl, rfl, HM, HB, HV⟩ := hrel
        by_cases hlj : j < l.length
        · obtain ⟨y, hy⟩ : ∃ y, l[j]? = some y := ⟨_, List.getElem?_eq_getElem hlj⟩
          have hym := List.mem_of_getElem? hy
          obtain ⟨b4, o4, yv, rfl, -, hb4, e0, e1, e2, hyv⟩ := RdAtoms.at (HL.out.up HB.out) hy
          obtain ⟨ya, yc, rfl, -, -, -⟩ := id hyv.form
          have HMS := Lib.hid (show memS v (heldOf (l.take (j + 1))) = (q || (!y.neg && memS v (varsOf y))) by rw [List.take_add_one, hy]; show memS v (heldOf (l.take j ++ [y])) = _; rw [memS_held, HM.out])
          obtain ⟨W1, hW1⟩ : ∃ W1, wr.alloc (.cells #[.bool y.neg, .string y.name, .slice ya y.terms.length yc] 30) = W1 := ⟨_, rfl⟩
          have HBA := Lib.hid (show Below wr.heap.size wr W1 from by rw [← hW1]; exact (Below.refl _ _).alloc (Nat.le_refl _) _)
          have HA1 := Lib.hid (show Blk W1 wr.heap.size 30 #[.bool y.neg, .string y.name, .slice ya y.terms.length yc] from by rw [← hW1]; exact Blk.new wr _ _)
          have HB1 := Lib.hid (HB.out.trans (HBA.out.mono HB.out.size))
          have HV1 := Lib.hid (HV.out.agree RStr.steady (Below.agree HBA.out))
          have a0 := HA1.out.cell 0
          have a1 := HA1.out.cell 1
          have a2 := HA1.out.cell 2
          simp only [List.getElem?_toArray, List.getElem?_cons_zero, List.getElem?_cons_succ] at a0 a1 a2
          have KV := Lib.hid (varsRef y _ W1 (hyv.up HBA.out) (M1.out y hym) (M2.out y hym))
          have hul : (varsOf y).length ≤ 1048576 := by have := varsF_length y.terms []; have := M1.out y hym; simp at *; show (varsF [] y.terms).length ≤ _; omega
          clear hy hym hyv HM
          generalize varsOf y = us at *
          go_wp2_with (go_at_call 13; refine (KV.out).mono ?_; rintro e w3 ⟨⟨v3, rfl, hv3⟩, hb3⟩; have HB3 := Lib.hid (HB1.out.trans (hb3.mono HB1.out.size)); have HA3 := Lib.hid (HA1.out.below hb3 HA1.out.lt); have HV3 := Lib.hid (HV1.out.agree RStr.steady (Below.agree hb3)); have HU := Lib.hid ((hv3.read RStr.steady).more (S' := fun _ => True) RStr.steady (fun _ _ _ => trivial)); obtain ⟨ua, uc, rfl, -, -, -⟩ := id (hv3.read RStr.steady).form; clear hb3 hv3)
          clear KV HBA HA1 HB1 HV1 a0 a1 a2
          have HM0 := Lib.hid (show (q || (!y.neg && memS v (us.take 0))) = q from by simp [memS])
          generalize HNB : wr.heap.size = nb at *
          clear HNB
          go_loopw [28, 7] (fun i b wr => ∃ (m : Nat) (r : Bool), m ≤ us.length ∧ i = .int .i64 m ∧ b = .bool r ∧ Hid ((q || (!y.neg && memS v (us.take m))) = r) ∧ Hid (Below w.heap.size w wr) ∧ Hid (RdStrs (fun _ => True) wr (.slice (some ⟨b1, o1, none⟩) vs.length vc) vs) ∧ Hid (RdStrs (fun _ => True) wr (.slice ua us.length uc) us) ∧ Hid (Blk wr nb 30 #[.bool y.neg, .string y.name, .slice ya y.terms.length yc])) (fun i _ _ => us.length - (intOf i).toNat)
          case atStart => exact ⟨0, q, Nat.zero_le _, rfl, rfl, HM0, HB3, HV3, HU, HA3⟩
          case round =>
            clear HM0 HB3 HV3 HU HA3
            obtain ⟨m, r, hm, rfl, rfl, HR, HB, HV, HU, HA⟩ := hrel
            by_cases hlm : m < us.length
            · obtain ⟨u, hu⟩ : ∃ u, us[m]? = some u := ⟨_, List.getElem?_eq_getElem hlm⟩
              obtain ⟨b5, o5, rfl, -, -, g0⟩ := RdStrs.at HU.out hu
              have HRS := Lib.hid (show (q || (!y.neg && memS v (us.take (m + 1)))) = (r || (!y.neg && decide (u = v))) by
                rw [List.take_add_one, hu]
                show (q || (!y.neg && memS v (us.take m ++ [u]))) = _
                rw [memS_snoc, ← HR.out, show decide (v = u) = decide (u = v) from decide_eq_decide.2 ⟨Eq.symm, Eq.symm⟩]
                cases q <;> cases y.neg <;> simp)
              have a0 := HA.out.cell 0
              simp only [List.getElem?_toArray, List.getElem?_cons_zero, List.getElem?_cons_succ] at a0
              obtain ⟨be, hbe⟩ : ∃ be, decide (u = v) = be := ⟨_, rfl⟩
              rw [hbe] at HRS
              have hbe2 : (u.toList == v.toList) = be := by rw [beq_toList]; exact hbe
              clear hu HR hbe
              cases hn : y.neg <;> rw [hn] at HRS HA a0 <;> cases r <;> cases be
              all_goals
                have HRS2 := Lib.hid (HRS.out.trans (show _ = _ from rfl))
                clear HRS
                go_wp2
                go_roundw
                case rel => exact ⟨m + 1, _, by omega, by go_num, rfl, by first | exact HRS2 | (rw [hn]; exact HRS2), HB, HV, HU, by first | exact HA | (rw [hn]; exact HA)⟩
                case measure => simp [intOf]; omega
            · have HR2 := Lib.hid (show memS v (heldOf (l.take (j + 1))) = r from by
                rw [HMS.out, ← HR.out, List.take_of_length_le (by omega)])
              clear HR HMS
              go_wp2
              go_roundw
              case rel => exact ⟨j + 1, r, by omega, by go_num, rfl, HR2, HB, HV⟩
              case measure => simp [intOf]; omega
        · rw [List.take_of_length_le (show l.length ≤ j by omega)] at HM
          cases q
          · have HF := Lib.hid (show boundIn (heldOf l) vs = false from by
              unfold boundIn
              rw [List.all_eq_false]
              exact ⟨v, List.mem_of_getElem? HVV.out, by rw [HM.out]; simp⟩)
            go_wp2
            go_ret
            exact ⟨ret_bool HF.out.symm, HB.out⟩
          · have HE2 := Lib.hid (show ∀ z ∈ vs.take (k + 1), memS z (heldOf l) = true from fun z hz => by
              rw [List.take_add_one, HVV.out] at hz
              rcases List.mem_append.1 hz with hz | hz
              · exact HE.out z hz
              · obtain rfl : z = v := by simpa using hz
                exact HM.out)
            go_wp2
            go_roundw
            case rel => exact ⟨k + 1, by omega, by go_num, HE2, HB, HV⟩
            case measure => simp [intOf]; omega
    · have HF := Lib.hid (show boundIn (heldOf l) vs = true from by
        unfold boundIn
        rw [List.all_eq_true]
        intro z hz
        exact HE.out z (by rwa [List.take_of_length_le (by omega)]))
      go_wp2
      go_ret
      exact ⟨ret_bool HF.out.symm, HB.out⟩

set_option maxRecDepth 100000 in
set_option maxHeartbeats 8000000 in
theorem wrongBodyRef {T : Nat → Prop} (l : List PAtom) (lv : Value) (w : World) (hl : RdAtoms T w lv l)
    (m0 : l.length ≤ 1048576) (m1 : ∀ a ∈ l, a.terms.length ≤ 1048576) (m2 : ∀ a ∈ l, ∀ t ∈ a.terms, t.name.size ≤ 1048576) (m3 : ∀ a ∈ l, a.name.size ≤ 1048576) :
    Calls Try.prog 15 #[lv] w fun e w' => e = .returned (.int .i64 (bodyBad l)) ∧ Below w.heap.size w w' := by
  obtain ⟨la, lc, rfl, -, -, -⟩ := id hl.form
  have HL := Lib.hid hl
  have M1 := Lib.hid m1
  have M2 := Lib.hid m2
  have M3 := Lib.hid m3
  clear hl m1 m2 m3
  by_cases h5 : 5 < l.length
  · have i5 : (5 : Int) < (l.length : Int) := by omega
    have HE := Lib.hid (bodyBad_many h5)
    go_enter Try.func15, Try.ntmps15
    go_wp2
    go_ret
    exact ⟨ret_int HE.out.symm, Below.refl _ _⟩
  have i5 : ¬ (5 : Int) < (l.length : Int) := by omega
  go_enter Try.func15, Try.ntmps15
  go_wp2
  go_loopw [13] (fun i wr => ∃ k : Nat, k ≤ l.length ∧ i = .int .i64 k ∧ Hid (Below w.heap.size w wr) ∧ Hid (∀ i a, i < k → l[i]? = some a → atomBad a = 0)) (fun i _ => l.length - (intOf i).toNat)
  case atStart => exact ⟨0, Nat.zero_le _, rfl, Lib.hid (Below.refl _ _), Lib.hid (fun i a hi _ => by omega)⟩
  case round =>
    obtain ⟨k, hk, rfl, HB, HZ⟩ := hrel
    by_cases hlt : k < l.length
    · obtain ⟨y, hy⟩ : ∃ y, l[k]? = some y := ⟨_, List.getElem?_eq_getElem hlt⟩
      have hym := List.mem_of_getElem? hy
      obtain ⟨b4, o4, yv, rfl, -, hb4, e0, e1, e2, hyv⟩ := RdAtoms.at (HL.out.up HB.out) hy
      obtain ⟨ya, yc, rfl, -, -, -⟩ := id hyv.form
      obtain ⟨W1, hW1⟩ : ∃ W1, wr.alloc (.cells #[.bool y.neg, .string y.name, .slice ya y.terms.length yc] 30) = W1 := ⟨_, rfl⟩
      have HBA := Lib.hid (show Below wr.heap.size wr W1 from by rw [← hW1]; exact (Below.refl _ _).alloc (Nat.le_refl _) _)
      have HA1 := Lib.hid (show Blk W1 wr.heap.size 30 #[.bool y.neg, .string y.name, .slice ya y.terms.length yc] from by rw [← hW1]; exact Blk.new wr _ _)
      have HB1 := Lib.hid (HB.out.trans (HBA.out.mono HB.out.size))
      have a0 := HA1.out.cell 0
      have a1 := HA1.out.cell 1
      have a2 := HA1.out.cell 2
      simp only [List.getElem?_toArray, List.getElem?_cons_zero, List.getElem?_cons_succ] at a0 a1 a2
      have KA := Lib.hid (wrongAtomRef y _ W1 (hyv.up HBA.out) (by have := M3.out y hym; omega) (by have := M1.out y hym; omega) (fun t ht => by have := M2.out y hym t ht; omega))
      have HX := Lib.hid hy
      clear hy hym hyv
      by_cases hz : atomBad y = 0
      · rw [hz] at KA
        have HZ1 := Lib.hid (show ∀ i a, i < k + 1 → l[i]? = some a → atomBad a = 0 from fun i a hi ha => by
          by_cases e : i = k
          · subst e
            rw [HX.out] at ha
            rw [← Option.some.inj ha]; exact hz
          · exact HZ.out i a (by omega) ha)
        clear hz
        go_wp2_with (go_at_call 35; refine (KA.out).mono ?_; rintro e w3 ⟨rfl, hb3⟩; have HB3 := Lib.hid (HB1.out.trans (hb3.mono HB1.out.size)); clear hb3)
        go_roundw
        case rel => exact ⟨k + 1, by omega, by go_num, HB3, HZ1⟩
        case measure => simp [intOf]; omega
      · have HE := Lib.hid (bodyBad_at h5 HZ.out HX.out hz)
        have hne : (atomBad y != 0) = true := by simpa using hz
        clear hz
        generalize atomBad y = q at *
        go_wp2_with (go_at_call 35; refine (KA.out).mono ?_; rintro e w3 ⟨rfl, hb3⟩; have HB3 := Lib.hid (HB1.out.trans (hb3.mono HB1.out.size)); clear hb3)
        go_ret
        exact ⟨ret_int HE.out.symm, HB3.out⟩
    · have HZL := Lib.hid (show ∀ i a, i < l.length → l[i]? = some a → atomBad a = 0 from fun i a hi ha => HZ.out i a (by omega) ha)
      clear HZ
      go_wp2
      have HF0 := Lib.hid (show ∀ a ∈ l.take 0, boundIn (heldOf l) (varsOf a) = true from by simp)
      go_loopw [25] (fun i wr => ∃ k : Nat, k ≤ l.length ∧ i = .int .i64 k ∧ Hid (Below w.heap.size w wr) ∧ Hid (∀ a ∈ l.take k, boundIn (heldOf l) (varsOf a) = true)) (fun i _ => l.length - (intOf i).toNat)
      case atStart => exact ⟨0, Nat.zero_le _, rfl, HB, HF0⟩
      case round =>
        clear HB HF0
        obtain ⟨k, hk, rfl, HB, HF⟩ := hrel
        by_cases hlt : k < l.length
        · obtain ⟨y, hy⟩ : ∃ y, l[k]? = some y := ⟨_, List.getElem?_eq_getElem hlt⟩
          have hym := List.mem_of_getElem? hy
          obtain ⟨b4, o4, yv, rfl, -, hb4, e0, e1, e2, hyv⟩ := RdAtoms.at (HL.out.up HB.out) hy
          obtain ⟨ya, yc, rfl, -, -, -⟩ := id hyv.form
          obtain ⟨W1, hW1⟩ : ∃ W1, wr.alloc (.cells #[.bool y.neg, .string y.name, .slice ya y.terms.length yc] 30) = W1 := ⟨_, rfl⟩
          have HBA := Lib.hid (show Below wr.heap.size wr W1 from by rw [← hW1]; exact (Below.refl _ _).alloc (Nat.le_refl _) _)
          have HA1 := Lib.hid (show Blk W1 wr.heap.size 30 #[.bool y.neg, .string y.name, .slice ya y.terms.length yc] from by rw [← hW1]; exact Blk.new wr _ _)
          have HB1 := Lib.hid (HB.out.trans (HBA.out.mono HB.out.size))
          have a0 := HA1.out.cell 0
          have a1 := HA1.out.cell 1
          have a2 := HA1.out.cell 2
          simp only [List.getElem?_toArray, List.getElem?_cons_zero, List.getElem?_cons_succ] at a0 a1 a2
          have KA := Lib.hid (boundRef y _ l _ W1 (hyv.up HBA.out) (HL.out.up HB1.out) (M1.out y hym) (M2.out y hym) m0 M1.out M2.out)
          have HY := Lib.hid hym
          have HX := Lib.hid hy
          clear hy hym hyv
          obtain ⟨q, hq⟩ : ∃ q, boundIn (heldOf l) (varsOf y) = q := ⟨_, rfl⟩
          rw [hq] at KA
          cases q
          · have HE := Lib.hid (show bodyBad l = 9 from by
              unfold boundIn at hq
              rw [List.all_eq_false] at hq
              obtain ⟨v, hv, hb⟩ := hq
              exact bodyBad_free h5 HZL.out HY.out hv (by simpa using hb))
            clear hq
            go_wp2_with (go_at_call 36; refine (KA.out).mono ?_; rintro e w3 ⟨rfl, hb3⟩; have HB3 := Lib.hid (HB1.out.trans (hb3.mono HB1.out.size)); clear hb3)
            go_ret
            exact ⟨ret_int HE.out.symm, HB3.out⟩
          · have HF1 := Lib.hid (show ∀ a ∈ l.take (k + 1), boundIn (heldOf l) (varsOf a) = true from fun z hz => by
              rw [List.take_add_one, HX.out] at hz
              rcases List.mem_append.1 hz with hz | hz
              · exact HF.out z hz
              · obtain rfl : z = y := by simpa using hz
                exact hq)
            clear hq
            go_wp2_with (go_at_call 36; refine (KA.out).mono ?_; rintro e w3 ⟨rfl, hb3⟩; have HB3 := Lib.hid (HB1.out.trans (hb3.mono HB1.out.size)); clear hb3)
            go_roundw
            case rel => exact ⟨k + 1, by omega, by go_num, HB3, HF1⟩
            case measure => simp [intOf]; omega
        · have HE := Lib.hid (show bodyBad l = 0 from bodyBad_ok h5 HZL.out (fun a ha v hv => by
            have := HF.out a (by rwa [List.take_of_length_le (by omega)])
            unfold boundIn at this
            exact List.all_eq_true.1 this v hv))
          go_wp2
          go_ret
          exact ⟨ret_int HE.out.symm, HB.out⟩
end Go.Proofs.Ytobbjapmdpkogaa
