/-
  THE WALKS OF check.Body, rule.
-/
import Derived.Test.YtmnpneandkiblaaCheckW1
namespace Go.Proofs.Ytmnpneandkiblaa
open Go.RowKit

theorem heldOf_length {N : Nat} : ∀ l : List PAtom, (∀ a ∈ l, a.terms.length ≤ N) → (heldOf l).length ≤ l.length * N
  | [], _ => by simp [heldOf]
  | a :: l, h => by
    have h1 := heldOf_length l fun b hb => h b (by simp [hb])
    have h2 := varsF_length a.terms []
    have h3 := h a (by simp)
    have h4 : (heldOf (a :: l)).length = (if a.neg then [] else varsOf a : List Str).length + (heldOf l).length := by simp [heldOf]
    have h5 : (if a.neg then [] else varsOf a : List Str).length ≤ N := by
      split
      · simp
      · show (varsF [] a.terms).length ≤ N
        simp at h2; omega
    rw [h4, List.length_cons, Nat.add_mul]
    omega
theorem allVars_length {N : Nat} : ∀ l : List PAtom, (∀ a ∈ l, a.terms.length ≤ N) → (allVars l).length ≤ l.length * N
  | [], _ => by simp [allVars]
  | a :: l, h => by
    have h1 := allVars_length l fun b hb => h b (by simp [hb])
    have h2 := varsF_length a.terms []
    have h3 := h a (by simp)
    have h4 : (allVars (a :: l)).length = (varsOf a).length + (allVars l).length := by simp [allVars]
    have h5 : (varsOf a).length ≤ N := by
      show (varsF [] a.terms).length ≤ N
      simp at h2; omega
    rw [h4, List.length_cons, Nat.add_mul]
    omega
theorem bodyBad_many {l : List PAtom} (h : 5 < l.length) : bodyBad l = 5 := by unfold bodyBad; rw [if_pos h]
theorem firstBad_at {l : List PAtom} {k : Nat} {x : PAtom} (h : ∀ i a, i < k → l[i]? = some a → atomBad a = 0) (hx : l[k]? = some x) (hb : atomBad x ≠ 0) : firstBad l = atomBad x := by
  rw [firstBad_take l k h, List.drop_eq_getElem_cons (List.getElem?_eq_some_iff.1 hx).1, (List.getElem?_eq_some_iff.1 hx).2, firstBad, if_pos hb]
theorem firstBad_none {l : List PAtom} (h : ∀ i a, i < l.length → l[i]? = some a → atomBad a = 0) : firstBad l = 0 := by
  rw [firstBad_take l l.length h, List.drop_length]; rfl
theorem bodyBad_at {l : List PAtom} (h5 : ¬ 5 < l.length) {k : Nat} {x : PAtom} (h : ∀ i a, i < k → l[i]? = some a → atomBad a = 0) (hx : l[k]? = some x) (hb : atomBad x ≠ 0) : bodyBad l = atomBad x := by
  unfold bodyBad
  rw [if_neg h5, firstBad_at h hx hb, if_pos hb]
theorem bodyBad_free {l : List PAtom} (h5 : ¬ 5 < l.length) (h : ∀ i a, i < l.length → l[i]? = some a → atomBad a = 0) {a : PAtom} (ha : a ∈ l) {v : Str} (hv : v ∈ varsOf a) (hb : memS v (heldOf l) = false) : bodyBad l = 9 := by
  unfold bodyBad
  rw [if_neg h5, firstBad_none h, if_neg (by simp), if_neg]
  intro hf
  have := List.all_eq_true.1 (List.all_eq_true.1 hf a ha) v hv
  rw [hb] at this
  cases this
theorem bodyBad_ok {l : List PAtom} (h5 : ¬ 5 < l.length) (h : ∀ i a, i < l.length → l[i]? = some a → atomBad a = 0) (hf : ∀ a ∈ l, ∀ v ∈ varsOf a, memS v (heldOf l) = true) : bodyBad l = 0 := by
  unfold bodyBad
  rw [if_neg h5, firstBad_none h, if_neg (by simp), if_pos]
  exact List.all_eq_true.2 fun a ha => List.all_eq_true.2 fun v hv => hf a ha v hv

set_option maxRecDepth 100000 in
set_option maxHeartbeats 8000000 in
theorem checkBody {S : Nat → Prop} (v : Value) (l : List PAtom) (w : World) (h : RdAtoms S w v l) (n1 : l.length ≤ 1048576) (n2 : ∀ a ∈ l, a.terms.length ≤ 1048576) (n3 : ∀ a ∈ l, ∀ t ∈ a.terms, t.name.size ≤ 1048576) :
    Calls Try.prog 21 #[v] w fun e w' => e = .returned (.int .i64 (bodyBad l)) ∧ Below w.heap.size w w' := by
  obtain ⟨a, c, rfl, -, -, -⟩ := id h.form
  have H := Lib.hid h
  have N2 := Lib.hid n2
  have N3 := Lib.hid n3
  clear h n2 n3
  by_cases h5 : 5 < l.length
  · have i5 : (5 : Int) < (l.length : Int) := by omega
    have HE := Lib.hid (bodyBad_many h5)
    go_enter Try.func21, Try.ntmps21
    go_wp2
    go_ret
    exact ⟨ret_int HE.out.symm, Below.refl _ _⟩
  have i5 : ¬ (5 : Int) < (l.length : Int) := by omega
  have HL := Lib.hid (fun k => heldOf_length (l.take k) (fun x hx => N2.out x (List.mem_of_mem_take hx)))
  go_enter Try.func21, Try.ntmps21
  go_wp2
  go_loopw [15, 3] (fun i v wr => ∃ k : Nat, k ≤ l.length ∧ i = .int .i64 k ∧ Hid (Owned 1 RStr w.heap.size 9 (fun _ => False) wr v (heldOf (l.take k))) ∧ Hid (Below w.heap.size w wr) ∧ Hid (∀ i a, i < k → l[i]? = some a → atomBad a = 0)) (fun i _ _ => l.length - (intOf i).toNat)
  case atStart => exact ⟨0, Nat.zero_le _, rfl, Lib.hid Owned.nil, Lib.hid (Below.refl _ _), Lib.hid (fun i a hi _ => by omega)⟩
  case round =>
    obtain ⟨k, hk, rfl, HO, HB, HZ⟩ := hrel
    obtain ⟨va, vc, efm, -, -, -⟩ := (HO.out.read RStr.steady).form
    subst efm
    by_cases hlt : k < l.length
    · obtain ⟨x, hx⟩ : ∃ x, l[k]? = some x := ⟨_, List.getElem?_eq_getElem hlt⟩
      obtain ⟨b1, o1, tv, rfl, -, hb1, d0, d1, d2, htv⟩ := RdAtoms.at (H.out.up HB.out) hx
      obtain ⟨ta, tc, rfl, -, -, -⟩ := id htv.form
      have HX := Lib.hid hx
      have nx := N2.out x (List.mem_of_getElem? hx)
      have HTV := Lib.hid htv
      have KA := Lib.hid (checkAtom b1 (o1 + k * 3) x _ wr d1 d2 htv (by omega) (fun t ht => by have := N3.out x (List.mem_of_getElem? hx) t ht; omega))
      have i1 : (0 : Int) ≤ (k : Int) := by omega
      have i2 : (k : Int) < (l.length : Int) := by omega
      have i3 : IntKind.i64.wrap (k : Int) = k := by rw [IntKind.wrap_i64]; omega
      clear hx htv
      by_cases hz : atomBad x = 0
      · rw [hz] at KA
        have HZ1 := Lib.hid (show ∀ i a, i < k + 1 → l[i]? = some a → atomBad a = 0 from fun i a hi ha => by
          by_cases e : i = k
          · subst e
            rw [HX.out] at ha
            rw [← Option.some.inj ha]; exact hz
          · exact HZ.out i a (by omega) ha)
        clear hz
        have HT := Lib.hid (show heldOf (l.take (k + 1)) = if x.neg then heldOf (l.take k) else heldOf (l.take k) ++ varsOf x by rw [List.take_add_one, HX.out]; exact heldOf_snoc _ _)
        have hll := HL.out k
        have hkk : (l.take k).length * 1048576 ≤ 5 * 1048576 := Nat.mul_le_mul_right _ (by rw [List.length_take]; omega)
        have HV0 := Lib.hid (show (varsOf x).length ≤ 1048576 by have := varsF_length x.terms []; simp at this; show (varsF [] x.terms).length ≤ _; omega)
        have HLL := Lib.hid (show (heldOf (l.take k)).length ≤ 5242880 by omega)
        clear hll hkk
        cases hn : x.neg
        · rw [hn] at HT d0
          rw [if_neg (by simp)] at HT
          have KV := Lib.hid (fun W (hW : Below wr.heap.size wr W) => varsCalls x (.slice ta x.terms.length tc) W (HTV.out.up hW) (by omega))
          rw [hn] at KV
          clear hn
          go_wp2_with (first
            | (go_at_call 38; refine (KA.out).mono ?_; rintro e w1 ⟨rfl, hf1⟩; have HF1 := Lib.hid hf1; have HB1 := Lib.hid (HB.out.trans (hf1.mono HB.out.size)); have HO1 := Lib.hid (HO.out.below RStr.steady hf1); have d0' := (cell_below hf1 hb1 (o1 + k * 3)).trans d0; have d1' := (cell_below hf1 hb1 (o1 + k * 3 + 1)).trans d1; have d2' := (cell_below hf1 hb1 (o1 + k * 3 + 2)).trans d2; clear hf1)
            | (go_at_call 20; refine (KV.out _ HF1.out).mono ?_; rintro e w2 ⟨⟨v2, rfl, ho2⟩, hf2⟩; have HB2 := Lib.hid (HB1.out.trans (hf2.mono HB1.out.size)); have HO2 := Lib.hid (HO1.out.below RStr.steady hf2); have HV2 := Lib.hid (ho2.read RStr.steady); clear ho2 hf2)
            | (at_builtin; refine wpList_append_many (B := w.heap.size) (e := 9) (S := fun _ => False) (by rfl) _ _ 39 (by rfl) RStr.steady RStr.one rowStrs _ (heldOf (l.take k)) (by rfl) HO2.out _ (varsOf x) (by rfl) HV2.out (fun _ _ h => h) (by have := HLL.out; have := HV0.out; omega) (Below.size HB2.out) ?_; intro v3 w3 hown3 hg3 hat3; have HO3 := Lib.hid (show Owned 1 RStr w.heap.size 9 (fun _ => False) w3 v3 (heldOf (l.take (k + 1))) by rw [HT.out]; exact hown3); have HB3 := Lib.hid (Below.grown HB2.out hg3 (Below.size HB2.out) (fun q hq => (HO2.out.row_lt hq).1)); clear hown3 hg3 hat3))
          go_wp2
          go_roundw
          case rel => exact ⟨k + 1, by omega, by go_num, HO3, HB3, HZ1⟩
          case measure => simp [intOf]; omega
        · rw [hn] at HT d0
          rw [if_pos rfl] at HT
          clear hn
          go_wp2_with (go_at_call 38; refine (KA.out).mono ?_; rintro e w1 ⟨rfl, hf1⟩; have HB1 := Lib.hid (HB.out.trans (hf1.mono HB.out.size)); have HO1 := Lib.hid (show Owned 1 RStr w.heap.size 9 (fun _ => False) w1 _ (heldOf (l.take (k + 1))) by rw [HT.out]; exact HO.out.below RStr.steady hf1); have d0' := (cell_below hf1 hb1 (o1 + k * 3)).trans d0; clear hf1)
          go_roundw
          case rel => exact ⟨k + 1, by omega, by go_num, HO1, HB1, HZ1⟩
          case measure => simp [intOf]; omega
      · have HE := Lib.hid (bodyBad_at h5 HZ.out HX.out hz)
        have hne : (atomBad x != 0) = true := by simpa using hz
        clear hz
        generalize atomBad x = q at *
        go_wp2_with (go_at_call 38; refine (KA.out).mono ?_; rintro e w1 ⟨rfl, hf1⟩; have HB1 := Lib.hid (HB.out.trans (hf1.mono HB.out.size)); clear hf1)
        go_ret
        exact ⟨ret_int HE.out.symm, HB1.out⟩
    · have htk : l.take k = l := List.take_of_length_le (by omega)
      have HLQ := Lib.hid (show (heldOf (l.take k)).length ≤ 5242880 by
        have h1 := HL.out k
        have h2 : (l.take k).length * 1048576 ≤ 5 * 1048576 := Nat.mul_le_mul_right _ (by rw [List.length_take]; omega)
        omega)
      generalize (heldOf (l.take k)).length = hl at *
      rw [htk] at HO
      have HZ1 := Lib.hid (show ∀ i a, i < l.length → l[i]? = some a → atomBad a = 0 from fun i a hi ha => HZ.out i a (by omega) ha)
      have hLQ := HLQ.out
      clear htk HZ HL
      have HRD := Lib.hid (HO.out.read RStr.steady)
      go_wp2
      obtain ⟨wo, hwo⟩ : ∃ wo : World, wo = wr := ⟨_, rfl⟩
      subst hwo
      go_loopw [41] (fun i wr => ∃ k : Nat, k ≤ l.length ∧ i = .int .i64 k ∧ Hid (Below wo.heap.size wo wr) ∧ Hid (∀ a ∈ l.take k, ∀ v ∈ varsOf a, memS v (heldOf l) = true)) (fun i _ => l.length - (intOf i).toNat)
      case atStart => exact ⟨0, Nat.zero_le _, rfl, Lib.hid (Below.refl _ _), Lib.hid (by simp)⟩
      case round =>
        obtain ⟨k2, hk2, rfl, HB2, HM⟩ := hrel
        by_cases hlt2 : k2 < l.length
        · obtain ⟨x, hx⟩ : ∃ x, l[k2]? = some x := ⟨_, List.getElem?_eq_getElem hlt2⟩
          obtain ⟨b1, o1, tv, rfl, -, -, d0, d1, d2, htv⟩ := RdAtoms.at (H.out.up (HB.out.trans (HB2.out.mono HB.out.size))) hx
          obtain ⟨ta, tc, rfl, -, -, -⟩ := id htv.form
          have HX := Lib.hid hx
          have nx := N2.out x (List.mem_of_getElem? hx)
          have hsz := HB2.out.size
          have HBX := Lib.hid (HB2.out.alloc hsz (.cells #[.bool x.neg, .string x.name, .slice ta x.terms.length tc] 38))
          have KV := Lib.hid (varsCalls x (.slice ta x.terms.length tc) (wr.alloc (.cells #[.bool x.neg, .string x.name, .slice ta x.terms.length tc] 38)) (htv.agree RTerm.steady ((Agree.refl _ _).alloc _)) (by omega))
          have HV0 := Lib.hid (show (varsOf x).length ≤ 1048576 by have := varsF_length x.terms []; simp at this; show (varsF [] x.terms).length ≤ _; omega)
          have HM1 := Lib.hid (show (∀ v ∈ varsOf x, memS v (heldOf l) = true) → ∀ a ∈ l.take (k2 + 1), ∀ v ∈ varsOf a, memS v (heldOf l) = true from fun hv a ha => by
            rw [List.take_add_one, HX.out] at ha
            rcases List.mem_append.1 ha with ha | ha
            · exact HM.out a ha
            · obtain rfl : a = x := by simpa using ha
              exact hv)
          have HFR := Lib.hid (fun v (hv : v ∈ varsOf x) (hb : memS v (heldOf l) = false) => bodyBad_free h5 HZ1.out (List.mem_of_getElem? HX.out) hv hb)
          clear hx htv
          generalize varsOf x = vs at *
          generalize heldOf l = held at *
          go_wp2_with (go_at_call 20; refine (KV.out).mono ?_; rintro e w3 ⟨⟨v3, rfl, ho3⟩, hf3⟩; obtain ⟨xa, xc, rfl, -, -, -⟩ := id (ho3.read RStr.steady).form; have HV3 := Lib.hid (ho3.read RStr.steady); have HB3 := Lib.hid (HBX.out.trans (hf3.mono (by simp; omega))); clear ho3 hf3)
          have HH3 := Lib.hid (RdStrs.up HRD.out HB3.out)
          have hv0 := HV0.out
          go_loop [48] (fun i => ∃ j : Nat, j ≤ vs.length ∧ i = .int .i64 j ∧ Hid (∀ v ∈ vs.take j, memS v held = true)) (fun i => vs.length - (intOf i).toNat)
          case atStart => exact ⟨0, Nat.zero_le _, rfl, Lib.hid (by simp)⟩
          case round =>
            obtain ⟨j, hj, rfl, HJ⟩ := hrel
            by_cases hlj : j < vs.length
            · obtain ⟨y, hy⟩ : ∃ y, vs[j]? = some y := ⟨_, List.getElem?_eq_getElem hlj⟩
              obtain ⟨b4, o4, rfl, -, -, hc4⟩ := RdStrs.at HV3.out hy
              have HY := Lib.hid hy
              have KC := Lib.hid (containsStr _ held y w3 HH3.out (by have := HH3.out.form; obtain ⟨_, _, e, _⟩ := this; injection e with _ e _; omega))
              clear hy
              have hm : memS y held = true ∨ memS y held = false := by cases memS y held <;> simp
              rcases hm with hm | hm
              · rw [hm] at KC
                have HJ1 := Lib.hid (show ∀ v ∈ vs.take (j + 1), memS v held = true from fun v hv => by
                  rw [List.take_add_one, HY.out] at hv
                  rcases List.mem_append.1 hv with hv | hv
                  · exact HJ.out v hv
                  · obtain rfl : v = y := by simpa using hv
                    exact hm)
                clear hm
                go_wp2_with (go_at_call 37; refine (KC.out).mono ?_; rintro e w' ⟨rfl, rfl⟩)
                go_round
                case rel => exact ⟨j + 1, by omega, by go_num, HJ1⟩
                case measure => simp [intOf]; omega
              · rw [hm] at KC
                have HE := Lib.hid (HFR.out y (List.mem_of_getElem? HY.out) hm)
                clear hm
                go_wp2_with (go_at_call 37; refine (KC.out).mono ?_; rintro e w' ⟨rfl, rfl⟩)
                go_ret
                exact ⟨ret_int HE.out.symm, HB.out.trans (HB3.out.mono HB.out.size)⟩
            · have HM2 := Lib.hid (HM1.out (by have := HJ.out; rwa [List.take_of_length_le (by omega)] at this))
              go_wp2
              go_roundw
              case rel => exact ⟨k2 + 1, by omega, by go_num, HB3, HM2⟩
              case measure => simp [intOf]; omega
        · have HE := Lib.hid (bodyBad_ok h5 HZ1.out (by have := HM.out; rwa [List.take_of_length_le (by omega)] at this))
          go_wp2
          go_ret
          exact ⟨ret_int HE.out.symm, HB.out.trans (HB2.out.mono HB.out.size)⟩

end Go.Proofs.Ytmnpneandkiblaa
