/-
  THE WALKS OF check.Body, rule.
-/
import Derived.Test.YtobbjapmdpkogaaCheckW1
namespace Go.Proofs.Ytobbjapmdpkogaa
open Go.RowKit

theorem heldOf_length {N : Nat} : ∀ l : List PAtom, (∀ a ∈ l, a.terms.length ≤ N) → (heldOf l).length ≤ l.length * N
  | [], _ => by simp [heldOf]
  | a :: l, h => by
    have h1 := heldOf_length l fun b hb => h b (by simp [hb])
    have h2 := varsF_length a.terms []
    have h3 := h a (by simp)
    have h4 : (heldOf (a :: l)).length = (if a.neg then [] else varsOf a : List Str).length + (heldOf l).length := by simp [heldOf]
    have h5 : (if a.neg then [] else varsOf a : List Str).length ≤ N := by
      split
      · simp
      · show (varsF [] a.terms).length ≤ N
        simp at h2; omega
    rw [h4, List.length_cons, Nat.add_mul]
    omega
theorem allVars_length {N : Nat} : ∀ l : List PAtom, (∀ a ∈ l, a.terms.length ≤ N) → (allVars l).length ≤ l.length * N
  | [], _ => by simp [allVars]
  | a :: l, h => by
    have h1 := allVars_length l fun b hb => h b (by simp [hb])
    have h2 := varsF_length a.terms []
    have h3 := h a (by simp)
    have h4 : (allVars (a :: l)).length = (varsOf a).length + (allVars l).length := by simp [allVars]
    have h5 : (varsOf a).length ≤ N := by
      show (varsF [] a.terms).length ≤ N
      simp at h2; omega
    rw [h4, List.length_cons, Nat.add_mul]
    omega
theorem bodyBad_many {l : List PAtom} (h : 5 < l.length) : bodyBad l = 5 := by unfold bodyBad; rw [if_pos h]
theorem firstBad_at {l : List PAtom} {k : Nat} {x : PAtom} (h : ∀ i a, i < k → l[i]? = some a → atomBad a = 0) (hx : l[k]? = some x) (hb : atomBad x ≠ 0) : firstBad l = atomBad x := by
  rw [firstBad_take l k h, List.drop_eq_getElem_cons (List.getElem?_eq_some_iff.1 hx).1, (List.getElem?_eq_some_iff.1 hx).2, firstBad, if_pos hb]
theorem firstBad_none {l : List PAtom} (h : ∀ i a, i < l.length → l[i]? = some a → atomBad a = 0) : firstBad l = 0 := by
  rw [firstBad_take l l.length h, List.drop_length]; rfl
theorem bodyBad_at {l : List PAtom} (h5 : ¬ 5 < l.length) {k : Nat} {x : PAtom} (h : ∀ i a, i < k → l[i]? = some a → atomBad a = 0) (hx : l[k]? = some x) (hb : atomBad x ≠ 0) : bodyBad l = atomBad x := by
  unfold bodyBad
  rw [if_neg h5, firstBad_at h hx hb, if_pos hb]
theorem bodyBad_free {l : List PAtom} (h5 : ¬ 5 < l.length) (h : ∀ i a, i < l.length → l[i]? = some a → atomBad a = 0) {a : PAtom} (ha : a ∈ l) {v : Str} (hv : v ∈ varsOf a) (hb : memS v (heldOf l) = false) : bodyBad l = 9 := by
  unfold bodyBad
  rw [if_neg h5, firstBad_none h, if_neg (by simp), if_neg]
  intro hf
  have := List.all_eq_true.1 (List.all_eq_true.1 hf a ha) v hv
  rw [hb] at this
  cases this
theorem bodyBad_ok {l : List PAtom} (h5 : ¬ 5 < l.length) (h : ∀ i a, i < l.length → l[i]? = some a → atomBad a = 0) (hf : ∀ a ∈ l, ∀ v ∈ varsOf a, memS v (heldOf l) = true) : bodyBad l = 0 := by
  unfold bodyBad
  rw [if_neg h5, firstBad_none h, if_neg (by simp), if_pos]
  exact List.all_eq_true.2 fun a ha => List.all_eq_true.2 fun v hv => hf a ha v hv

set_option maxRecDepth 100000 in
set_option maxHeartbeats 8000000 in
theorem checkBody {S : Nat → Prop} (v : Value) (l : List PAtom) (w : World) (h : RdAtoms S w v l) (n1 : l.length ≤ 1048576) (n2 : ∀ a ∈ l, a.terms.length ≤ 1048576) (n3 : ∀ a ∈ l, ∀ t ∈ a.terms, t.name.size ≤ 1048576) :
    Calls Try.prog 14 #[v] w fun e w' => e = .returned (.int .i64 (bodyBad l)) ∧ Below w.heap.size w w' := by
  obtain ⟨a, c, rfl, -, -, -⟩ := id h.form
  have H := Lib.hid h
  have N2 := Lib.hid n2
  have N3 := Lib.hid n3
  clear h n2 n3
  by_cases h5 : 5 < l.length
  · have i5 : (5 : Int) < (l.length : Int) := by omega
    have HE := Lib.hid (bodyBad_many h5)
    go_enter Try.func14, Try.ntmps14
    go_wp2
    go_ret
    exact ⟨ret_int HE.out.symm, Below.refl _ _⟩
  have i5 : ¬ (5 : Int) < (l.length : Int) := by omega
  have HL := Lib.hid (fun k => heldOf_length (l.take k) (fun x hx => N2.out x (List.mem_of_mem_take hx)))
  go_enter Try.func14, Try.ntmps14
  go_wp2
  go_loopw [15, 3] (fun i v wr => ∃ k : Nat, k ≤ l.length ∧ i = .int .i64 k ∧ Hid (Owned 1 RStr w.heap.size 9 (fun _ => False) wr v (heldOf (l.take k))) ∧ Hid (Below w.heap.size w wr) ∧ Hid (∀ i a, i < k → l[i]? = some a → atomBad a = 0)) (fun i _ _ => l.length - (intOf i).toNat)
  case atStart => exact ⟨0, Nat.zero_le _, rfl, Lib.hid Owned.nil, Lib.hid (Below.refl _ _), Lib.hid (fun i a hi _ => by omega)⟩
  case round =>
    obtain ⟨k, hk, rfl, HO, HB, HZ⟩ := hrel
    obtain ⟨va, vc, efm, -, -, -⟩ := (HO.out.read RStr.steady).form
    subst efm
    by_cases hlt : k < l.length
    · obtain ⟨x, hx⟩ : ∃ x, l[k]? = some x := ⟨_, List.getElem?_eq_getElem hlt⟩
      obtain ⟨b1, o1, tv, rfl, -, hb1, d0, d1, d2, htv⟩ := RdAtoms.at (H.out.up HB.out) hx
      obtain ⟨ta, tc, rfl, -, -, -⟩ := id htv.form
      have HX := Lib.hid hx
      have nx := N2.out x (List.mem_of_getElem? hx)
      have HTV := Lib.hid htv
      have KA := Lib.hid (checkAtom b1 (o1 + k * 3) x _ wr d1 d2 htv (by omega) (fun t ht => by have := N3.out x (List.mem_of_getElem? hx) t ht; omega))
      have i1 : (0 : Int) ≤ (k : Int) := by omega
      have i2 : (k : Int) < (l.length : Int) := by omega
      have i3 : IntKind.i64.wrap (k : Int) = k := by rw [IntKind.wrap_i64]; omega
      clear hx htv
      by_cases hz : atomBad x = 0
      · rw [hz] at KA
        have HZ1 := Lib.hid (show ∀ i a, i < k + 1 → l[i]? = some a → atomBad a = 0 from fun i a hi ha => by
          by_cases e : i = k
          · subst e
            rw [HX.out] at ha
            rw [← Option.some.inj ha]; exact hz
          · exact HZ.out i a (by omega) ha)
        clear hz
        have HT := Lib.hid (show heldOf (l.take (k + 1)) = if x.neg then heldOf (l.take k) else heldOf (l.take k) ++ varsOf x by rw [List.take_add_one, HX.out]; exact heldOf_snoc _ _)
        have hll := HL.out k
        have hkk : (l.take k).length * 1048576 ≤ 5 * 1048576 := Nat.mul_le_mul_right _ (by rw [List.length_take]; omega)
        have HV0 := Lib.hid (show (varsOf x).length ≤ 1048576 by have := varsF_length x.terms []; simp at this; show (varsF [] x.terms).length ≤ _; omega)
        have HLL := Lib.hid (show (heldOf (l.take k)).length ≤ 5242880 by omega)
        clear hll hkk
        cases hn : x.neg
        · rw [hn] at HT d0
          rw [if_neg (by simp)] at HT
          have KV := Lib.hid (fun W (hW : Below wr.heap.size wr W) => varsCalls x (.slice ta x.terms.length tc) W (HTV.out.up hW) (by omega))
          rw [hn] at KV
          clear hn
          go_wp2_with (first
            | (go_at_call 38; refine (KA.out).mono ?_; rintro e w1 ⟨rfl, hf1⟩; have HF1 := Lib.hid hf1; have HB1 := Lib.hid (HB.out.trans (hf1.mono HB.out.size)); have HO1 := Lib.hid (HO.out.below RStr.steady hf1); have d0' := (cell_below hf1 hb1 (o1 + k * 3)).trans d0; have d1' := (cell_below hf1 hb1 (o1 + k * 3 + 1)).trans d1; have d2' := (cell_below hf1 hb1 (o1 + k * 3 + 2)).trans d2; clear hf1)
            | (go_at_call 12; refine (KV.out _ HF1.out).mono ?_; rintro e w2 ⟨⟨v2, rfl, ho2⟩, hf2⟩; have HB2 := Lib.hid (HB1.out.trans (hf2.mono HB1.out.size)); have HO2 := Lib.hid (HO1.out.below RStr.steady hf2); have HV2 := Lib.hid (ho2.read RStr.steady); clear ho2 hf2)
            | (at_builtin; refine wpList_append_many (B := w.heap.size) (e := 9) (S := fun _ => False) (by rfl) _ _ 34 (by rfl) RStr.steady RStr.one rowStrs _ (heldOf (l.take k)) (by rfl) HO2.out _ (varsOf x) (by rfl) HV2.out (fun _ _ h => h) (by have := HLL.out; have := HV0.out; omega) (Below.size HB2.out) ?_; intro v3 w3 hown3 hg3 hat3; have HO3 := Lib.hid (show Owned 1 RStr w.heap.size 9 (fun _ => False) w3 v3 (heldOf (l.take (k + 1))) by rw [HT.out]; exact hown3); have HB3 := Lib.hid (Below.grown HB2.out hg3 (Below.size HB2.out) (fun q hq => (HO2.out.row_lt hq).1)); clear hown3 hg3 hat3))
          go_wp2
          go_roundw
          case rel => exact ⟨k + 1, by omega, by go_num, HO3, HB3, HZ1⟩
          case measure => simp [intOf]; omega
        · rw [hn] at HT d0
          rw [if_pos rfl] at HT
          clear hn
          go_wp2_with (go_at_call 38; refine (KA.out).mono ?_; rintro e w1 ⟨rfl, hf1⟩; have HB1 := Lib.hid (HB.out.trans (hf1.mono HB.out.size)); have HO1 := Lib.hid (show Owned 1 RStr w.heap.size 9 (fun _ => False) w1 _ (heldOf (l.take (k + 1))) by rw [HT.out]; exact HO.out.below RStr.steady hf1); have d0' := (cell_below hf1 hb1 (o1 + k * 3)).trans d0; clear hf1)
          go_roundw
          case rel => exact ⟨k + 1, by omega, by go_num, HO1, HB1, HZ1⟩
          case measure => simp [intOf]; omega
      · have HE := Lib.hid (bodyBad_at h5 HZ.out HX.out hz)
        have hne : (atomBad x != 0) = true := by simpa using hz
        clear hz
        generalize atomBad x = q at *
        go_wp2_with (go_at_call 38; refine (KA.out).mono ?_; rintro e w1 ⟨rfl, hf1⟩; have HB1 := Lib.hid (HB.out.trans (hf1.mono HB.out.size)); clear hf1)
        go_ret
        exact ⟨ret_int HE.out.symm, HB1.out⟩
    · have htk : l.take k = l := List.take_of_length_le (by omega)
      have HLQ := Lib.hid (show (heldOf (l.take k)).length ≤ 5242880 by
        have h1 := HL.out k
        have h2 : (l.take k).length * 1048576 ≤ 5 * 1048576 := Nat.mul_le_mul_right _ (by rw [List.length_take]; omega)
        omega)
      generalize (heldOf (l.take k)).length = hl at *
      rw [htk] at HO
      have HZ1 := Lib.hid (show ∀ i a, i < l.length → l[i]? = some a → atomBad a = 0 from fun i a hi ha => HZ.out i a (by omega) ha)
      have hLQ := HLQ.out
      clear htk HZ HL
      have HRD := Lib.hid (HO.out.read RStr.steady)
      go_wp2
      obtain ⟨wo, hwo⟩ : ∃ wo : World, wo = wr := ⟨_, rfl⟩
      subst hwo
      go_loopw [41] (fun i wr => ∃ k : Nat, k ≤ l.length ∧ i = .int .i64 k ∧ Hid (Below wo.heap.size wo wr) ∧ Hid (∀ a ∈ l.take k, ∀ v ∈ varsOf a, memS v (heldOf l) = true)) (fun i _ => l.length - (intOf i).toNat)
      case atStart => exact ⟨0, Nat.zero_le _, rfl, Lib.hid (Below.refl _ _), Lib.hid (by simp)⟩
      case round =>
        obtain ⟨k2, hk2, rfl, HB2, HM⟩ := hrel
        by_cases hlt2 : k2 < l.length
        · obtain ⟨x, hx⟩ : ∃ x, l[k2]? = some x := ⟨_, List.getElem?_eq_getElem hlt2⟩
          obtain ⟨b1, o1, tv, rfl, -, -, d0, d1, d2, htv⟩ := RdAtoms.at (H.out.up (HB.out.trans (HB2.out.mono HB.out.size))) hx
          obtain ⟨ta, tc, rfl, -, -, -⟩ := id htv.form
          have HX := Lib.hid hx
          have nx := N2.out x (List.mem_of_getElem? hx)
          have hsz := HB2.out.size
          have HBX := Lib.hid (HB2.out.alloc hsz (.cells #[.bool x.neg, .string x.name, .slice ta x.terms.length tc] 30))
          have KV := Lib.hid (varsCalls x (.slice ta x.terms.length tc) (wr.alloc (.cells #[.bool x.neg, .string x.name, .slice ta x.terms.length tc] 30)) (htv.agree RTerm.steady ((Agree.refl _ _).alloc _)) (by omega))
          have HV0 := Lib.hid (show (varsOf x).length ≤ 1048576 by have := varsF_length x.terms []; simp at this; show (varsF [] x.terms).length ≤ _; omega)
          have HM1 := Lib.hid (show (∀ v ∈ varsOf x, memS v (heldOf l) = true) → ∀ a ∈ l.take (k2 + 1), ∀ v ∈ varsOf a, memS v (heldOf l) = true from fun hv a ha => by
            rw [List.take_add_one, HX.out] at ha
            rcases List.mem_append.1 ha with ha | ha
            · exact HM.out a ha
            · obtain rfl : a = x := by simpa using ha
              exact hv)
          have HFR := Lib.hid (fun v (hv : v ∈ varsOf x) (hb : memS v (heldOf l) = false) => bodyBad_free h5 HZ1.out (List.mem_of_getElem? HX.out) hv hb)
          clear hx htv
          generalize varsOf x = vs at *
          generalize heldOf l = held at *
          go_wp2_with (go_at_call 12; refine (KV.out).mono ?_; rintro e w3 ⟨⟨v3, rfl, ho3⟩, hf3⟩; obtain ⟨xa, xc, rfl, -, -, -⟩ := id (ho3.read RStr.steady).form; have HV3 := Lib.hid (ho3.read RStr.steady); have HB3 := Lib.hid (HBX.out.trans (hf3.mono (by simp; omega))); clear ho3 hf3)
          have HH3 := Lib.hid (RdStrs.up HRD.out HB3.out)
          have hv0 := HV0.out
          go_loop [48] (fun i => ∃ j : Nat, j ≤ vs.length ∧ i = .int .i64 j ∧ Hid (∀ v ∈ vs.take j, memS v held = true)) (fun i => vs.length - (intOf i).toNat)
          case atStart => exact ⟨0, Nat.zero_le _, rfl, Lib.hid (by simp)⟩
          case round =>
            obtain ⟨j, hj, rfl, HJ⟩ := hrel
            by_cases hlj : j < vs.length
            · obtain ⟨y, hy⟩ : ∃ y, vs[j]? = some y := ⟨_, List.getElem?_eq_getElem hlj⟩
              obtain ⟨b4, o4, rfl, -, -, hc4⟩ := RdStrs.at HV3.out hy
              have HY := Lib.hid hy
              have KC := Lib.hid (containsStr _ held y w3 HH3.out (by have := HH3.out.form; obtain ⟨_, _, e, _⟩ := this; injection e with _ e _; omega))
              clear hy
              have hm : memS y held = true ∨ memS y held = false := by cases memS y held <;> simp
              rcases hm with hm | hm
              · rw [hm] at KC
                have HJ1 := Lib.hid (show ∀ v ∈ vs.take (j + 1), memS v held = true from fun v hv => by
                  rw [List.take_add_one, HY.out] at hv
                  rcases List.mem_append.1 hv with hv | hv
                  · exact HJ.out v hv
                  · obtain rfl : v = y := by simpa using hv
                    exact hm)
                clear hm
                go_wp2_with (go_at_call 37; refine (KC.out).mono ?_; rintro e w' ⟨rfl, rfl⟩)
                go_round
                case rel => exact ⟨j + 1, by omega, by go_num, HJ1⟩
                case measure => simp [intOf]; omega
              · rw [hm] at KC
                have HE := Lib.hid (HFR.out y (List.mem_of_getElem? HY.out) hm)
                clear hm
                go_wp2_with (go_at_call 37; refine (KC.out).mono ?_; rintro e w' ⟨rfl, rfl⟩)
                go_ret
                exact ⟨ret_int HE.out.symm, HB.out.trans (HB3.out.mono HB.out.size)⟩
            · have HM2 := Lib.hid (HM1.out (by have := HJ.out; rwa [List.take_of_length_le (by omega)] at this))
              go_wp2
              go_roundw
              case rel => exact ⟨k2 + 1, by omega, by go_num, HB3, HM2⟩
              case measure => simp [intOf]; omega
        · have HE := Lib.hid (bodyBad_ok h5 HZ1.out (by have := HM.out; rwa [List.take_of_length_le (by omega)] at this))
          go_wp2
          go_ret
          exact ⟨ret_int HE.out.symm, HB.out.trans (HB2.out.mono HB.out.size)⟩

/-! ### rule -/
/-- A rule lies in block b from place o on. -/
structure RuleAt (S : Nat → Prop) (w : World) (b o : Nat) (x : PRule) (tv bv : Value) : Prop where
  lt : b < w.heap.size
  c0 : w.cell? ⟨b, o, none⟩ = some (.bool x.head.neg)
  c1 : w.cell? ⟨b, o + 1, none⟩ = some (.string x.head.name)
  c2 : w.cell? ⟨b, o + 2, none⟩ = some tv
  c3 : w.cell? ⟨b, o + 3, none⟩ = some bv
  t : RdTerms S w tv x.head.terms
  b : RdAtoms S w bv x.body
theorem RuleAt.up {S : Nat → Prop} {w w' : World} {b o : Nat} {x : PRule} {tv bv : Value} (h : RuleAt S w b o x tv bv) (hb : Below w.heap.size w w') : RuleAt (fun _ => True) w' b o x tv bv :=
  ⟨Nat.lt_of_lt_of_le h.lt hb.size, (cell_below hb h.lt _).trans h.c0, (cell_below hb h.lt _).trans h.c1, (cell_below hb h.lt _).trans h.c2, (cell_below hb h.lt _).trans h.c3, h.t.up hb, h.b.up hb⟩
structure RuleSmall (x : PRule) : Prop where
  h1 : x.head.terms.length ≤ 1048576
  h2 : ∀ t ∈ x.head.terms, t.name.size ≤ 1048576
  b0 : x.body.length ≤ 1048576
  b1 : ∀ a ∈ x.body, a.terms.length ≤ 1048576
  b2 : ∀ a ∈ x.body, ∀ t ∈ a.terms, t.name.size ≤ 1048576

set_option maxRecDepth 100000 in
set_option maxHeartbeats 8000000 in
theorem checkRule {S : Nat → Prop} (b o : Nat) (x : PRule) (tv bv : Value) (w : World) (h : RuleAt S w b o x tv bv) (hs : RuleSmall x) :
    Calls Try.prog 32 #[.pointer (some ⟨b, o, none⟩)] w fun e w' => e = .returned (.int .i64 (ruleBad x)) ∧ Below w.heap.size w w' := by
  have HR0 := Lib.hid (h.up (Below.refl _ _))
  obtain ⟨ta, tc, rfl, -, -, -⟩ := id h.t.form
  obtain ⟨ba, bc, rfl, -, -, -⟩ := id h.b.form
  have HS := Lib.hid hs
  have hh1 := hs.h1
  have hb0 := hs.b0
  have KA := Lib.hid (checkAtom b o x.head _ w h.c1 h.c2 h.t (by have := hs.h1; omega) (fun t ht => by have := hs.h2 t ht; omega))
  have KB := Lib.hid (fun W (hW : Below w.heap.size w W) => checkBody (.slice ba x.body.length bc) x.body W (h.b.up hW) hs.b0 hs.b1 hs.b2)
  clear h hs
  have hE0 : ruleBad x = if atomBad x.head ≠ 0 then atomBad x.head else if x.head.neg then 2 else if bodyBad x.body ≠ 0 then bodyBad x.body else if (varsOf x.head).all (fun v => memS v (allVars x.body)) then 0 else 9 := rfl
  by_cases hz : atomBad x.head = 0
  rotate_left
  · have HE := Lib.hid (show ruleBad x = atomBad x.head by rw [hE0, if_pos hz])
    have hne : (atomBad x.head != 0) = true := by simpa using hz
    clear hE0 hz
    generalize atomBad x.head = q at *
    go_enter Try.func32, Try.ntmps32
    go_wp2_with (go_at_call 38; refine (KA.out).mono ?_; rintro e w1 ⟨rfl, hf1⟩; have HB1 := Lib.hid hf1; clear hf1)
    go_ret
    exact ⟨ret_int HE.out.symm, HB1.out⟩
  rw [if_neg (by simpa using hz)] at hE0
  rw [hz] at KA
  clear hz
  cases hn : x.head.neg
  rotate_left
  · have HE := Lib.hid (show ruleBad x = 2 by rw [hE0, hn]; rfl)
    have HN := Lib.hid hn
    clear hE0 hn
    go_enter Try.func32, Try.ntmps32
    go_wp2_with (go_at_call 38; refine (KA.out).mono ?_; rintro e w1 ⟨rfl, hf1⟩; have HB1 := Lib.hid hf1; have c0 := (HR0.out.up hf1).c0; rw [HN.out] at c0; clear hf1)
    go_ret
    exact ⟨ret_int HE.out.symm, HB1.out⟩
  rw [hn, if_neg (by simp)] at hE0
  have HN := Lib.hid hn
  clear hn
  by_cases hz : bodyBad x.body = 0
  rotate_left
  · have HE := Lib.hid (show ruleBad x = bodyBad x.body by rw [hE0, if_pos hz])
    have hne : (bodyBad x.body != 0) = true := by simpa using hz
    clear hE0 hz
    generalize bodyBad x.body = q at *
    go_enter Try.func32, Try.ntmps32
    go_wp2_with (first
      | (go_at_call 38; refine (KA.out).mono ?_; rintro e w1 ⟨rfl, hf1⟩; have HB1 := Lib.hid hf1; have c0 := (HR0.out.up hf1).c0; have c3 := (HR0.out.up hf1).c3; rw [HN.out] at c0; clear hf1)
      | (go_at_call 14; refine (KB.out _ HB1.out).mono ?_; rintro e w2 ⟨rfl, hf2⟩; have HB2 := Lib.hid (HB1.out.trans (hf2.mono HB1.out.size)); clear hf2))
    go_ret
    exact ⟨ret_int HE.out.symm, HB2.out⟩
  rw [if_neg (by simpa using hz)] at hE0
  have hlen : x.body.length ≤ 5 := by
    unfold bodyBad at hz
    split at hz
    · exact absurd hz (by decide)
    · omega
  rw [hz] at KB
  have HE0 := Lib.hid hE0
  clear hz hE0
  have HL := Lib.hid (fun k => allVars_length (x.body.take k) (fun y hy => HS.out.b1 y (List.mem_of_mem_take hy)))
  go_enter Try.func32, Try.ntmps32
  go_wp2_with (first
    | (go_at_call 38; refine (KA.out).mono ?_; rintro e w1 ⟨rfl, hf1⟩; have HB1 := Lib.hid hf1; have c0 := (HR0.out.up hf1).c0; have c3 := (HR0.out.up hf1).c3; rw [HN.out] at c0; clear hf1)
    | (go_at_call 14; refine (KB.out _ HB1.out).mono ?_; rintro e w2 ⟨rfl, hf2⟩; have HB2 := Lib.hid (HB1.out.trans (hf2.mono HB1.out.size)); have d3 := (HR0.out.up HB2.out).c3; clear hf2))
  clear c0 c3 HB1
  go_loopw [35, 5] (fun i v wr => ∃ k : Nat, k ≤ x.body.length ∧ i = .int .i64 k ∧ Hid (Owned 1 RStr w.heap.size 9 (fun _ => False) wr v (allVars (x.body.take k))) ∧ Hid (Below w.heap.size w wr)) (fun i _ _ => x.body.length - (intOf i).toNat)
  case atStart => exact ⟨0, Nat.zero_le _, rfl, Lib.hid Owned.nil, HB2⟩
  case round =>
    clear d3 HB2
    obtain ⟨k, hk, rfl, HO, HB⟩ := hrel
    obtain ⟨va, vc, efm, -, -, -⟩ := (HO.out.read RStr.steady).form
    subst efm
    by_cases hlt : k < x.body.length
    · obtain ⟨y, hy⟩ : ∃ y, x.body[k]? = some y := ⟨_, List.getElem?_eq_getElem hlt⟩
      obtain ⟨b1, o1, uv, rfl, -, hb1, d0, d1, d2, huv⟩ := RdAtoms.at ((HR0.out.up HB.out).b) hy
      obtain ⟨ua, uc, rfl, -, -, -⟩ := id huv.form
      have ny := HS.out.b1 y (List.mem_of_getElem? hy)
      have hsz := HB.out.size
      have HBX := Lib.hid (HB.out.alloc hsz (.cells #[.bool y.neg, .string y.name, .slice ua y.terms.length uc] 30))
      have HOX := Lib.hid (HO.out.alloc RStr.steady (.cells #[.bool y.neg, .string y.name, .slice ua y.terms.length uc] 30))
      have KV := Lib.hid (varsCalls y (.slice ua y.terms.length uc) (wr.alloc (.cells #[.bool y.neg, .string y.name, .slice ua y.terms.length uc] 30)) (huv.agree RTerm.steady ((Agree.refl _ _).alloc _)) (by omega))
      have HT := Lib.hid (show allVars (x.body.take (k + 1)) = allVars (x.body.take k) ++ varsOf y by rw [List.take_add_one, hy]; exact allVars_snoc _ _)
      have hll := HL.out k
      have hkk : (x.body.take k).length * 1048576 ≤ 5 * 1048576 := Nat.mul_le_mul_right _ (by rw [List.length_take]; omega)
      have HV0 := Lib.hid (show (varsOf y).length ≤ 1048576 by have := varsF_length y.terms []; simp at this; show (varsF [] y.terms).length ≤ _; omega)
      have HLL := Lib.hid (show (allVars (x.body.take k)).length ≤ 5242880 by omega)
      clear hll hkk hy huv
      go_wp2_with (first
        | (go_at_call 12; refine (KV.out).mono ?_; rintro e w3 ⟨⟨v3, rfl, ho3⟩, hf3⟩; have HB3 := Lib.hid (HBX.out.trans (hf3.mono (by simp; omega))); have HO3 := Lib.hid (HOX.out.below RStr.steady hf3); have HV3 := Lib.hid (ho3.read RStr.steady); clear ho3 hf3)
        | (at_builtin; refine wpList_append_many (B := w.heap.size) (e := 9) (S := fun _ => False) (by rfl) _ _ 34 (by rfl) RStr.steady RStr.one rowStrs _ (allVars (x.body.take k)) (by rfl) HO3.out _ (varsOf y) (by rfl) HV3.out (fun _ _ h => h) (by have := HLL.out; have := HV0.out; omega) (Below.size HB3.out) ?_; intro v4 w4 hown4 hg4 hat4; have HO4 := Lib.hid (show Owned 1 RStr w.heap.size 9 (fun _ => False) w4 v4 (allVars (x.body.take (k + 1))) by rw [HT.out]; exact hown4); have HB4 := Lib.hid (Below.grown HB3.out hg4 (Below.size HB3.out) (fun q hq => (HO3.out.row_lt hq).1)); clear hown4 hg4 hat4))
      go_wp2
      go_roundw
      case rel => exact ⟨k + 1, by omega, by go_num, HO4, HB4⟩
      case measure => simp [intOf]; omega
    · have htk : x.body.take k = x.body := List.take_of_length_le (by omega)
      have HLQ := Lib.hid (show (allVars (x.body.take k)).length ≤ 5242880 by
        have h1 := HL.out k
        have h2 : (x.body.take k).length * 1048576 ≤ 5 * 1048576 := Nat.mul_le_mul_right _ (by rw [List.length_take]; omega)
        omega)
      generalize (allVars (x.body.take k)).length = hl at *
      rw [htk] at HO
      have hLQ := HLQ.out
      clear htk HL
      have HRD := Lib.hid (HO.out.read RStr.steady)
      have c0 := (HR0.out.up HB.out).c0
      have c1 := (HR0.out.up HB.out).c1
      have c2 := (HR0.out.up HB.out).c2
      have KV := Lib.hid (varsCalls x.head (.slice ta x.head.terms.length tc) wr ((HR0.out.up HB.out).t) (by omega))
      have HV0 := Lib.hid (show (varsOf x.head).length ≤ 1048576 by have := varsF_length x.head.terms []; simp at this; show (varsF [] x.head.terms).length ≤ _; omega)
      rw [HN.out] at KV c0
      have HFR := Lib.hid (fun v (hv : v ∈ varsOf x.head) (hb : memS v (allVars x.body) = false) => (show ruleBad x = 9 by
        rw [HE0.out, if_neg]
        intro hf
        have := List.all_eq_true.1 hf v hv
        rw [hb] at this; cases this))
      have HOK := Lib.hid (fun (hv : ∀ v ∈ varsOf x.head, memS v (allVars x.body) = true) => (show ruleBad x = 0 by
        rw [HE0.out, if_pos (List.all_eq_true.2 hv)]))
      generalize varsOf x.head = vs at *
      generalize allVars x.body = held at *
      go_wp2_with (go_at_call 12; refine (KV.out).mono ?_; rintro e w3 ⟨⟨v3, rfl, ho3⟩, hf3⟩; obtain ⟨xa, xc, rfl, -, -, -⟩ := id (ho3.read RStr.steady).form; have HV3 := Lib.hid (ho3.read RStr.steady); have HB3 := Lib.hid (HB.out.trans (hf3.mono HB.out.size)); have HH3 := Lib.hid (RdStrs.up HRD.out hf3); clear ho3 hf3)
      have hv0 := HV0.out
      go_loop [50] (fun i => ∃ j : Nat, j ≤ vs.length ∧ i = .int .i64 j ∧ Hid (∀ v ∈ vs.take j, memS v held = true)) (fun i => vs.length - (intOf i).toNat)
      case atStart => exact ⟨0, Nat.zero_le _, rfl, Lib.hid (by simp)⟩
      case round =>
        obtain ⟨j, hj, rfl, HJ⟩ := hrel
        by_cases hlj : j < vs.length
        · obtain ⟨y, hy⟩ : ∃ y, vs[j]? = some y := ⟨_, List.getElem?_eq_getElem hlj⟩
          obtain ⟨b4, o4, rfl, -, -, hc4⟩ := RdStrs.at HV3.out hy
          have HY := Lib.hid hy
          have KC := Lib.hid (containsStr _ held y w3 HH3.out (by have := HH3.out.form; obtain ⟨_, _, e, _⟩ := this; injection e with _ e _; omega))
          clear hy
          have hm : memS y held = true ∨ memS y held = false := by cases memS y held <;> simp
          rcases hm with hm | hm
          · rw [hm] at KC
            have HJ1 := Lib.hid (show ∀ v ∈ vs.take (j + 1), memS v held = true from fun v hv => by
              rw [List.take_add_one, HY.out] at hv
              rcases List.mem_append.1 hv with hv | hv
              · exact HJ.out v hv
              · obtain rfl : v = y := by simpa using hv
                exact hm)
            clear hm
            go_wp2_with (go_at_call 37; refine (KC.out).mono ?_; rintro e w' ⟨rfl, rfl⟩)
            go_round
            case rel => exact ⟨j + 1, by omega, by go_num, HJ1⟩
            case measure => simp [intOf]; omega
          · rw [hm] at KC
            have HE := Lib.hid (HFR.out y (List.mem_of_getElem? HY.out) hm)
            clear hm
            go_wp2_with (go_at_call 37; refine (KC.out).mono ?_; rintro e w' ⟨rfl, rfl⟩)
            go_ret
            exact ⟨ret_int HE.out.symm, HB3.out⟩
        · have HE := Lib.hid (HOK.out (by have := HJ.out; rwa [List.take_of_length_le (by omega)] at this))
          go_wp2
          go_ret
          exact ⟨ret_int HE.out.symm, HB3.out⟩
end Go.Proofs.Ytobbjapmdpkogaa
