/-
  THE TEXTS CheckW2, WithW, MatchK, one behind the other.
-/
import Derived.Test.YtdngkcieckejoaaGreatPk3
import Derived.Test.YtdngkcieckejoaaGreatPk4
import Derived.Test.YtdngkcieckejoaaGreatPk7
namespace Go.Proofs.YtdngkcieckejoaaGreat
section
open Go.RowKit
theorem heldOf_length {N : Nat} : ∀ l : List PAtom,(∀ a ∈ l,a.terms.length ≤ N) → (heldOf l).length ≤ l.length * N
 | [],_ => by simp [heldOf]
 | a :: l,h => by
  have h1 := heldOf_length l fun b hb => h b (by simp [hb])
  have h2 := varsF_length a.terms []
  have h3 := h a (by simp)
  have h4 : (heldOf (a :: l)).length = (if a.neg then [] else varsOf a : List Str).length + (heldOf l).length := by simp [heldOf]
  have h5 : (if a.neg then [] else varsOf a : List Str).length ≤ N := by
   split
   ·simp
   ·show (varsF [] a.terms).length ≤ N
    simp at h2;omega
  rw [h4,List.length_cons,Nat.add_mul]
  omega
theorem allVars_length {N : Nat} : ∀ l : List PAtom,(∀ a ∈ l,a.terms.length ≤ N) → (allVars l).length ≤ l.length * N
 | [],_ => by simp [allVars]
 | a :: l,h => by
  have h1 := allVars_length l fun b hb => h b (by simp [hb])
  have h2 := varsF_length a.terms []
  have h3 := h a (by simp)
  have h4 : (allVars (a :: l)).length = (varsOf a).length + (allVars l).length := by simp [allVars]
  have h5 : (varsOf a).length ≤ N := by
   show (varsF [] a.terms).length ≤ N
   simp at h2;omega
  rw [h4,List.length_cons,Nat.add_mul]
  omega
theorem bodyBad_many {l : List PAtom} (h : 5 < l.length) : bodyBad l = 5 := by unfold bodyBad;rw [if_pos h]
theorem firstBad_at {l : List PAtom} {k : Nat} {x : PAtom} (h : ∀ i a,i < k → l[i]? = some a → atomBad a = 0) (hx : l[k]? = some x) (hb : atomBad x ≠ 0) : firstBad l = atomBad x := by
 rw [firstBad_take l k h,List.drop_eq_getElem_cons (List.getElem?_eq_some_iff.1 hx).1,(List.getElem?_eq_some_iff.1 hx).2,firstBad,if_pos hb]
theorem firstBad_none {l : List PAtom} (h : ∀ i a,i < l.length → l[i]? = some a → atomBad a = 0) : firstBad l = 0 := by
 rw [firstBad_take l l.length h,List.drop_length];rfl
theorem bodyBad_at {l : List PAtom} (h5 : ¬ 5 < l.length) {k : Nat} {x : PAtom} (h : ∀ i a,i < k → l[i]? = some a → atomBad a = 0) (hx : l[k]? = some x) (hb : atomBad x ≠ 0) : bodyBad l = atomBad x := by
 unfold bodyBad
 rw [if_neg h5,firstBad_at h hx hb,if_pos hb]
theorem bodyBad_free {l : List PAtom} (h5 : ¬ 5 < l.length) (h : ∀ i a,i < l.length → l[i]? = some a → atomBad a = 0) {a : PAtom} (ha : a ∈ l) {v : Str} (hv : v ∈ varsOf a) (hb : memS v (heldOf l) = false) : bodyBad l = 9 := by
 unfold bodyBad
 rw [if_neg h5,firstBad_none h,if_neg (by simp),if_neg]
 intro hf
 have := List.all_eq_true.1 (List.all_eq_true.1 hf a ha) v hv
 rw [hb] at this
 cases this
theorem bodyBad_ok {l : List PAtom} (h5 : ¬ 5 < l.length) (h : ∀ i a,i < l.length → l[i]? = some a → atomBad a = 0) (hf : ∀ a ∈ l,∀ v ∈ varsOf a,memS v (heldOf l) = true) : bodyBad l = 0 := by
 unfold bodyBad
 rw [if_neg h5,firstBad_none h,if_neg (by simp),if_pos]
 exact List.all_eq_true.2 fun a ha => List.all_eq_true.2 fun v hv => hf a ha v hv
set_option maxRecDepth 100000 in
set_option maxHeartbeats 0 in
theorem checkBody {S : Nat → Prop} (v : Value) (l : List PAtom) (w : World) (h : RdAtoms S w v l) (n1 : l.length ≤ 1048576) (n2 : ∀ a ∈ l,a.terms.length ≤ 1048576) (n3 : ∀ a ∈ l,∀ t ∈ a.terms,t.name.size ≤ 1048576) :
 Calls Tryz.prog 78 #[v] w fun e w' => e = .returned (.int .i64 (bodyBad l)) ∧ Below w.heap.size w w' := by
 obtain ⟨a,c,rfl,-,-,-⟩ := id h.form
 have H := ζ h
 have N2 := ζ n2
 have N3 := ζ n3
 clear h n2 n3
 by_cases h5 : 5 < l.length
 ·have i5 : (5 : Int) < (l.length : Int) := by omega
  have HE := ζ (bodyBad_many h5)
  go_enter Tryz.func78,Tryz.ntmps78
  go_wp2
  go_ret
  exact ⟨ret_int HE.out.symm,ζb _ _⟩
 have i5 : ¬ (5 : Int) < (l.length : Int) := by omega
 have HL := ζ (fun k => heldOf_length (l.take k) (fun x hx => N2.out x (List.mem_of_mem_take hx)))
 go_enter Tryz.func78,Tryz.ntmps78
 go_wp2
 go_loopw [15,3] (fun i v wr => ∃ k : Nat,k ≤ l.length ∧ i = .int .i64 k ∧ Hid (Owned 1 RStr w.heap.size 9 (fun _ => False) wr v (heldOf (l.take k))) ∧ Hid (Below w.heap.size w wr) ∧ Hid (∀ i a,i < k → l[i]? = some a → atomBad a = 0)) (fun i _ _ => l.length - (intOf i).toNat)
 case atStart => exact ⟨0,Nat.zero_le _,rfl,ζ Owned.nil,ζ (ζb _ _),ζ (fun i a hi _ => by omega)⟩
 case round =>
  obtain ⟨k,hk,rfl,HO,HB,HZ⟩ := hrel
  obtain ⟨va,vc,efm,-,-,-⟩ := (HO.out.read ζS).form
  subst efm
  by_cases hlt : k < l.length
  ·obtain ⟨x,hx⟩ : ∃ x,l[k]? = some x := ⟨_,ζe hlt⟩
   obtain ⟨b1,o1,tv,rfl,-,hb1,d0,d1,d2,htv⟩ := RdAtoms.at (H.out.up HB.out) hx
   obtain ⟨ta,tc,rfl,-,-,-⟩ := id htv.form
   have HX := ζ hx
   have nx := N2.out x (ζm hx)
   have HTV := ζ htv
   have KA := ζ (checkAtom b1 (o1 + k * 3) x _ wr d1 d2 htv (by omega) (fun t ht => by have := N3.out x (ζm hx) t ht;omega))
   have i1 : (0 : Int) ≤ (k : Int) := by omega
   have i2 : (k : Int) < (l.length : Int) := by omega
   have i3 : IntKind.i64.wrap (k : Int) = k := by rw [IntKind.wrap_i64];omega
   clear hx htv
   by_cases hz : atomBad x = 0
   ·rw [hz] at KA
    have HZ1 := ζ (show ∀ i a,i < k + 1 → l[i]? = some a → atomBad a = 0 from fun i a hi ha => by
     by_cases e : i = k
     ·subst e
      rw [HX.out] at ha
      rw [← Option.some.inj ha];exact hz
     ·exact HZ.out i a (by omega) ha)
    clear hz
    have HT := ζ (show heldOf (l.take (k + 1)) = if x.neg then heldOf (l.take k) else heldOf (l.take k) ++ varsOf x by rw [List.take_add_one,HX.out];exact heldOf_snoc _ _)
    have hll := HL.out k
    have hkk : (l.take k).length * 1048576 ≤ 5 * 1048576 := Nat.mul_le_mul_right _ (by rw [List.length_take];omega)
    have HV0 := ζ (show (varsOf x).length ≤ 1048576 by have := varsF_length x.terms [];simp at this;show (varsF [] x.terms).length ≤ _;omega)
    have HLL := ζ (show (heldOf (l.take k)).length ≤ 5242880 by omega)
    clear hll hkk
    cases hn : x.neg
    ·rw [hn] at HT d0
     rw [if_neg (by simp)] at HT
     have KV := ζ (fun W (hW : Below wr.heap.size wr W) => varsCalls x (.slice ta x.terms.length tc) W (HTV.out.up hW) (by omega))
     rw [hn] at KV
     clear hn
     go_wp2_with (first
      | (go_at_call 77;refine (KA.out).mono ?_;rintro e w1 ⟨rfl,hf1⟩;have HF1 := ζ hf1;have HB1 := ζ (HB.out.trans (hf1.mono HB.out.size));have HO1 := ζ (HO.out.below ζS hf1);have d0' := (ζl hf1 hb1 (o1 + k * 3)).trans d0;have d1' := (ζl hf1 hb1 (o1 + k * 3 + 1)).trans d1;have d2' := (ζl hf1 hb1 (o1 + k * 3 + 2)).trans d2;clear hf1)
      | (go_at_call 79;refine (KV.out _ HF1.out).mono ?_;rintro e w2 ⟨⟨v2,rfl,ho2⟩,hf2⟩;have HB2 := ζ (HB1.out.trans (hf2.mono HB1.out.size));have HO2 := ζ (HO1.out.below ζS hf2);have HV2 := ζ (ho2.read ζS);clear ho2 hf2)
      | (at_builtin;refine wpList_append_many (B := w.heap.size) (e := 9) (S := fun _ => False) (by rfl) _ _ 25 (by rfl) ζS RStr.one rowStrs _ (heldOf (l.take k)) (by rfl) HO2.out _ (varsOf x) (by rfl) HV2.out (fun _ _ h => h) (by have := HLL.out;have := HV0.out;omega) (Below.size HB2.out) ?_;intro v3 w3 hown3 hg3 hat3;have HO3 := ζ (show Owned 1 RStr w.heap.size 9 (fun _ => False) w3 v3 (heldOf (l.take (k + 1))) by rw [HT.out];exact hown3);have HB3 := ζ (Below.grown HB2.out hg3 (Below.size HB2.out) (fun q hq => (HO2.out.row_lt hq).1));clear hown3 hg3 hat3))
     go_wp2
     go_roundw
     case rel => exact ⟨k + 1,by omega,by go_num,HO3,HB3,HZ1⟩
     case measure => simp [intOf];omega
    ·rw [hn] at HT d0
     rw [if_pos rfl] at HT
     clear hn
     go_wp2_with (go_at_call 77;refine (KA.out).mono ?_;rintro e w1 ⟨rfl,hf1⟩;have HB1 := ζ (HB.out.trans (hf1.mono HB.out.size));have HO1 := ζ (show Owned 1 RStr w.heap.size 9 (fun _ => False) w1 _ (heldOf (l.take (k + 1))) by rw [HT.out];exact HO.out.below ζS hf1);have d0' := (ζl hf1 hb1 (o1 + k * 3)).trans d0;clear hf1)
     go_roundw
     case rel => exact ⟨k + 1,by omega,by go_num,HO1,HB1,HZ1⟩
     case measure => simp [intOf];omega
   ·have HE := ζ (bodyBad_at h5 HZ.out HX.out hz)
    have hne : (atomBad x != 0) = true := by simpa using hz
    clear hz
    generalize atomBad x = q at *
    go_wp2_with (go_at_call 77;refine (KA.out).mono ?_;rintro e w1 ⟨rfl,hf1⟩;have HB1 := ζ (HB.out.trans (hf1.mono HB.out.size));clear hf1)
    go_ret
    exact ⟨ret_int HE.out.symm,HB1.out⟩
  ·have htk : l.take k = l := List.take_of_length_le (by omega)
   have HLQ := ζ (show (heldOf (l.take k)).length ≤ 5242880 by
    have h1 := HL.out k
    have h2 : (l.take k).length * 1048576 ≤ 5 * 1048576 := Nat.mul_le_mul_right _ (by rw [List.length_take];omega)
    omega)
   generalize (heldOf (l.take k)).length = hl at *
   rw [htk] at HO
   have HZ1 := ζ (show ∀ i a,i < l.length → l[i]? = some a → atomBad a = 0 from fun i a hi ha => HZ.out i a (by omega) ha)
   have hLQ := HLQ.out
   clear htk HZ HL
   have HRD := ζ (HO.out.read ζS)
   go_wp2
   obtain ⟨wo,hwo⟩ : ∃ wo : World,wo = wr := ⟨_,rfl⟩
   subst hwo
   go_loopw [41] (fun i wr => ∃ k : Nat,k ≤ l.length ∧ i = .int .i64 k ∧ Hid (Below wo.heap.size wo wr) ∧ Hid (∀ a ∈ l.take k,∀ v ∈ varsOf a,memS v (heldOf l) = true)) (fun i _ => l.length - (intOf i).toNat)
   case atStart => exact ⟨0,Nat.zero_le _,rfl,ζ (ζb _ _),ζ (by simp)⟩
   case round =>
    obtain ⟨k2,hk2,rfl,HB2,HM⟩ := hrel
    by_cases hlt2 : k2 < l.length
    ·obtain ⟨x,hx⟩ : ∃ x,l[k2]? = some x := ⟨_,ζe hlt2⟩
     obtain ⟨b1,o1,tv,rfl,-,-,d0,d1,d2,htv⟩ := RdAtoms.at (H.out.up (HB.out.trans (HB2.out.mono HB.out.size))) hx
     obtain ⟨ta,tc,rfl,-,-,-⟩ := id htv.form
     have HX := ζ hx
     have nx := N2.out x (ζm hx)
     have hsz := HB2.out.size
     have HBX := ζ (HB2.out.alloc hsz (.cells #[.bool x.neg,.string x.name,.slice ta x.terms.length tc] 78))
     have KV := ζ (varsCalls x (.slice ta x.terms.length tc) (wr.alloc (.cells #[.bool x.neg,.string x.name,.slice ta x.terms.length tc] 78)) (htv.agree RTerm.steady ((Agree.refl _ _).alloc _)) (by omega))
     have HV0 := ζ (show (varsOf x).length ≤ 1048576 by have := varsF_length x.terms [];simp at this;show (varsF [] x.terms).length ≤ _;omega)
     have HM1 := ζ (show (∀ v ∈ varsOf x,memS v (heldOf l) = true) → ∀ a ∈ l.take (k2 + 1),∀ v ∈ varsOf a,memS v (heldOf l) = true from fun hv a ha => by
      rw [List.take_add_one,HX.out] at ha
      rcases List.mem_append.1 ha with ha | ha
      ·exact HM.out a ha
      ·obtain rfl : a = x := by simpa using ha
       exact hv)
     have HFR := ζ (fun v (hv : v ∈ varsOf x) (hb : memS v (heldOf l) = false) => bodyBad_free h5 HZ1.out (ζm HX.out) hv hb)
     clear hx htv
     generalize varsOf x = vs at *
     generalize heldOf l = held at *
     go_wp2_with (go_at_call 79;refine (KV.out).mono ?_;rintro e w3 ⟨⟨v3,rfl,ho3⟩,hf3⟩;obtain ⟨xa,xc,rfl,-,-,-⟩ := id (ho3.read ζS).form;have HV3 := ζ (ho3.read ζS);have HB3 := ζ (HBX.out.trans (hf3.mono (by simp;omega)));clear ho3 hf3)
     have HH3 := ζ (RdStrs.up HRD.out HB3.out)
     have hv0 := HV0.out
     go_loop [48] (fun i => ∃ j : Nat,j ≤ vs.length ∧ i = .int .i64 j ∧ Hid (∀ v ∈ vs.take j,memS v held = true)) (fun i => vs.length - (intOf i).toNat)
     case atStart => exact ⟨0,Nat.zero_le _,rfl,ζ (by simp)⟩
     case round =>
      obtain ⟨j,hj,rfl,HJ⟩ := hrel
      by_cases hlj : j < vs.length
      ·obtain ⟨y,hy⟩ : ∃ y,vs[j]? = some y := ⟨_,ζe hlj⟩
       obtain ⟨b4,o4,rfl,-,-,hc4⟩ := RdStrs.at HV3.out hy
       have HY := ζ hy
       have KC := ζ (containsStr _ held y w3 HH3.out (by have := HH3.out.form;obtain ⟨_,_,e,_⟩ := this;injection e with _ e _;omega))
       clear hy
       have hm : memS y held = true ∨ memS y held = false := by cases memS y held <;> simp
       rcases hm with hm | hm
       ·rw [hm] at KC
        have HJ1 := ζ (show ∀ v ∈ vs.take (j + 1),memS v held = true from fun v hv => by
         rw [List.take_add_one,HY.out] at hv
         rcases List.mem_append.1 hv with hv | hv
         ·exact HJ.out v hv
         ·obtain rfl : v = y := by simpa using hv
          exact hm)
        clear hm
        go_wp2_with (go_at_call 80;refine (KC.out).mono ?_;rintro e w' ⟨rfl,rfl⟩)
        go_round
        case rel => exact ⟨j + 1,by omega,by go_num,HJ1⟩
        case measure => simp [intOf];omega
       ·rw [hm] at KC
        have HE := ζ (HFR.out y (ζm HY.out) hm)
        clear hm
        go_wp2_with (go_at_call 80;refine (KC.out).mono ?_;rintro e w' ⟨rfl,rfl⟩)
        go_ret
        exact ⟨ret_int HE.out.symm,HB.out.trans (HB3.out.mono HB.out.size)⟩
      ·have HM2 := ζ (HM1.out (by have := HJ.out;rwa [List.take_of_length_le (by omega)] at this))
       go_wp2
       go_roundw
       case rel => exact ⟨k2 + 1,by omega,by go_num,HB3,HM2⟩
       case measure => simp [intOf];omega
    ·have HE := ζ (bodyBad_ok h5 HZ1.out (by have := HM.out;rwa [List.take_of_length_le (by omega)] at this))
     go_wp2
     go_ret
     exact ⟨ret_int HE.out.symm,HB.out.trans (HB2.out.mono HB.out.size)⟩
structure RuleAt (S : Nat → Prop) (w : World) (b o : Nat) (x : PRule) (tv bv : Value) : Prop where
 lt : b < w.heap.size
 c0 : w.cell? ⟨b,o,none⟩ = some (.bool x.head.neg)
 c1 : w.cell? ⟨b,o + 1,none⟩ = some (.string x.head.name)
 c2 : w.cell? ⟨b,o + 2,none⟩ = some tv
 c3 : w.cell? ⟨b,o + 3,none⟩ = some bv
 t : RdTerms S w tv x.head.terms
 b : RdAtoms S w bv x.body
theorem RuleAt.up {S : Nat → Prop} {w w' : World} {b o : Nat} {x : PRule} {tv bv : Value} (h : RuleAt S w b o x tv bv) (hb : Below w.heap.size w w') : RuleAt (fun _ => True) w' b o x tv bv :=
 ⟨Nat.lt_of_lt_of_le h.lt hb.size,(ζl hb h.lt _).trans h.c0,(ζl hb h.lt _).trans h.c1,(ζl hb h.lt _).trans h.c2,(ζl hb h.lt _).trans h.c3,h.t.up hb,h.b.up hb⟩
structure RuleSmall (x : PRule) : Prop where
 h1 : x.head.terms.length ≤ 1048576
 h2 : ∀ t ∈ x.head.terms,t.name.size ≤ 1048576
 b0 : x.body.length ≤ 1048576
 b1 : ∀ a ∈ x.body,a.terms.length ≤ 1048576
 b2 : ∀ a ∈ x.body,∀ t ∈ a.terms,t.name.size ≤ 1048576
set_option maxRecDepth 100000 in
set_option maxHeartbeats 0 in
theorem checkRule {S : Nat → Prop} (b o : Nat) (x : PRule) (tv bv : Value) (w : World) (h : RuleAt S w b o x tv bv) (hs : RuleSmall x) :
 Calls Tryz.prog 56 #[.pointer (some ⟨b,o,none⟩)] w fun e w' => e = .returned (.int .i64 (ruleBad x)) ∧ Below w.heap.size w w' := by
 have HR0 := ζ (h.up (ζb _ _))
 obtain ⟨ta,tc,rfl,-,-,-⟩ := id h.t.form
 obtain ⟨ba,bc,rfl,-,-,-⟩ := id h.b.form
 have HS := ζ hs
 have hh1 := hs.h1
 have hb0 := hs.b0
 have KA := ζ (checkAtom b o x.head _ w h.c1 h.c2 h.t (by have := hs.h1;omega) (fun t ht => by have := hs.h2 t ht;omega))
 have KB := ζ (fun W (hW : Below w.heap.size w W) => checkBody (.slice ba x.body.length bc) x.body W (h.b.up hW) hs.b0 hs.b1 hs.b2)
 clear h hs
 have hE0 : ruleBad x = if atomBad x.head ≠ 0 then atomBad x.head else if x.head.neg then 2 else if bodyBad x.body ≠ 0 then bodyBad x.body else if (varsOf x.head).all (fun v => memS v (allVars x.body)) then 0 else 9 := rfl
 by_cases hz : atomBad x.head = 0
 rotate_left
 ·have HE := ζ (show ruleBad x = atomBad x.head by rw [hE0,if_pos hz])
  have hne : (atomBad x.head != 0) = true := by simpa using hz
  clear hE0 hz
  generalize atomBad x.head = q at *
  go_enter Tryz.func56,Tryz.ntmps56
  go_wp2_with (go_at_call 77;refine (KA.out).mono ?_;rintro e w1 ⟨rfl,hf1⟩;have HB1 := ζ hf1;clear hf1)
  go_ret
  exact ⟨ret_int HE.out.symm,HB1.out⟩
 rw [if_neg (by simpa using hz)] at hE0
 rw [hz] at KA
 clear hz
 cases hn : x.head.neg
 rotate_left
 ·have HE := ζ (show ruleBad x = 2 by rw [hE0,hn];rfl)
  have HN := ζ hn
  clear hE0 hn
  go_enter Tryz.func56,Tryz.ntmps56
  go_wp2_with (go_at_call 77;refine (KA.out).mono ?_;rintro e w1 ⟨rfl,hf1⟩;have HB1 := ζ hf1;have c0 := (HR0.out.up hf1).c0;rw [HN.out] at c0;clear hf1)
  go_ret
  exact ⟨ret_int HE.out.symm,HB1.out⟩
 rw [hn,if_neg (by simp)] at hE0
 have HN := ζ hn
 clear hn
 by_cases hz : bodyBad x.body = 0
 rotate_left
 ·have HE := ζ (show ruleBad x = bodyBad x.body by rw [hE0,if_pos hz])
  have hne : (bodyBad x.body != 0) = true := by simpa using hz
  clear hE0 hz
  generalize bodyBad x.body = q at *
  go_enter Tryz.func56,Tryz.ntmps56
  go_wp2_with (first
   | (go_at_call 77;refine (KA.out).mono ?_;rintro e w1 ⟨rfl,hf1⟩;have HB1 := ζ hf1;have c0 := (HR0.out.up hf1).c0;have c3 := (HR0.out.up hf1).c3;rw [HN.out] at c0;clear hf1)
   | (go_at_call 78;refine (KB.out _ HB1.out).mono ?_;rintro e w2 ⟨rfl,hf2⟩;have HB2 := ζ (HB1.out.trans (hf2.mono HB1.out.size));clear hf2))
  go_ret
  exact ⟨ret_int HE.out.symm,HB2.out⟩
 rw [if_neg (by simpa using hz)] at hE0
 have hlen : x.body.length ≤ 5 := by
  unfold bodyBad at hz
  split at hz
  ·exact absurd hz (by decide)
  ·omega
 rw [hz] at KB
 have HE0 := ζ hE0
 clear hz hE0
 have HL := ζ (fun k => allVars_length (x.body.take k) (fun y hy => HS.out.b1 y (List.mem_of_mem_take hy)))
 go_enter Tryz.func56,Tryz.ntmps56
 go_wp2_with (first
  | (go_at_call 77;refine (KA.out).mono ?_;rintro e w1 ⟨rfl,hf1⟩;have HB1 := ζ hf1;have c0 := (HR0.out.up hf1).c0;have c3 := (HR0.out.up hf1).c3;rw [HN.out] at c0;clear hf1)
  | (go_at_call 78;refine (KB.out _ HB1.out).mono ?_;rintro e w2 ⟨rfl,hf2⟩;have HB2 := ζ (HB1.out.trans (hf2.mono HB1.out.size));have d3 := (HR0.out.up HB2.out).c3;clear hf2))
 clear c0 c3 HB1
 go_loopw [35,5] (fun i v wr => ∃ k : Nat,k ≤ x.body.length ∧ i = .int .i64 k ∧ Hid (Owned 1 RStr w.heap.size 9 (fun _ => False) wr v (allVars (x.body.take k))) ∧ Hid (Below w.heap.size w wr)) (fun i _ _ => x.body.length - (intOf i).toNat)
 case atStart => exact ⟨0,Nat.zero_le _,rfl,ζ Owned.nil,HB2⟩
 case round =>
  clear d3 HB2
  obtain ⟨k,hk,rfl,HO,HB⟩ := hrel
  obtain ⟨va,vc,efm,-,-,-⟩ := (HO.out.read ζS).form
  subst efm
  by_cases hlt : k < x.body.length
  ·obtain ⟨y,hy⟩ : ∃ y,x.body[k]? = some y := ⟨_,ζe hlt⟩
   obtain ⟨b1,o1,uv,rfl,-,hb1,d0,d1,d2,huv⟩ := RdAtoms.at ((HR0.out.up HB.out).b) hy
   obtain ⟨ua,uc,rfl,-,-,-⟩ := id huv.form
   have ny := HS.out.b1 y (ζm hy)
   have hsz := HB.out.size
   have HBX := ζ (HB.out.alloc hsz (.cells #[.bool y.neg,.string y.name,.slice ua y.terms.length uc] 78))
   have HOX := ζ (HO.out.alloc ζS (.cells #[.bool y.neg,.string y.name,.slice ua y.terms.length uc] 78))
   have KV := ζ (varsCalls y (.slice ua y.terms.length uc) (wr.alloc (.cells #[.bool y.neg,.string y.name,.slice ua y.terms.length uc] 78)) (huv.agree RTerm.steady ((Agree.refl _ _).alloc _)) (by omega))
   have HT := ζ (show allVars (x.body.take (k + 1)) = allVars (x.body.take k) ++ varsOf y by rw [List.take_add_one,hy];exact allVars_snoc _ _)
   have hll := HL.out k
   have hkk : (x.body.take k).length * 1048576 ≤ 5 * 1048576 := Nat.mul_le_mul_right _ (by rw [List.length_take];omega)
   have HV0 := ζ (show (varsOf y).length ≤ 1048576 by have := varsF_length y.terms [];simp at this;show (varsF [] y.terms).length ≤ _;omega)
   have HLL := ζ (show (allVars (x.body.take k)).length ≤ 5242880 by omega)
   clear hll hkk hy huv
   go_wp2_with (first
    | (go_at_call 79;refine (KV.out).mono ?_;rintro e w3 ⟨⟨v3,rfl,ho3⟩,hf3⟩;have HB3 := ζ (HBX.out.trans (hf3.mono (by simp;omega)));have HO3 := ζ (HOX.out.below ζS hf3);have HV3 := ζ (ho3.read ζS);clear ho3 hf3)
    | (at_builtin;refine wpList_append_many (B := w.heap.size) (e := 9) (S := fun _ => False) (by rfl) _ _ 25 (by rfl) ζS RStr.one rowStrs _ (allVars (x.body.take k)) (by rfl) HO3.out _ (varsOf y) (by rfl) HV3.out (fun _ _ h => h) (by have := HLL.out;have := HV0.out;omega) (Below.size HB3.out) ?_;intro v4 w4 hown4 hg4 hat4;have HO4 := ζ (show Owned 1 RStr w.heap.size 9 (fun _ => False) w4 v4 (allVars (x.body.take (k + 1))) by rw [HT.out];exact hown4);have HB4 := ζ (Below.grown HB3.out hg4 (Below.size HB3.out) (fun q hq => (HO3.out.row_lt hq).1));clear hown4 hg4 hat4))
   go_wp2
   go_roundw
   case rel => exact ⟨k + 1,by omega,by go_num,HO4,HB4⟩
   case measure => simp [intOf];omega
  ·have htk : x.body.take k = x.body := List.take_of_length_le (by omega)
   have HLQ := ζ (show (allVars (x.body.take k)).length ≤ 5242880 by
    have h1 := HL.out k
    have h2 : (x.body.take k).length * 1048576 ≤ 5 * 1048576 := Nat.mul_le_mul_right _ (by rw [List.length_take];omega)
    omega)
   generalize (allVars (x.body.take k)).length = hl at *
   rw [htk] at HO
   have hLQ := HLQ.out
   clear htk HL
   have HRD := ζ (HO.out.read ζS)
   have c0 := (HR0.out.up HB.out).c0
   have c1 := (HR0.out.up HB.out).c1
   have c2 := (HR0.out.up HB.out).c2
   have KV := ζ (varsCalls x.head (.slice ta x.head.terms.length tc) wr ((HR0.out.up HB.out).t) (by omega))
   have HV0 := ζ (show (varsOf x.head).length ≤ 1048576 by have := varsF_length x.head.terms [];simp at this;show (varsF [] x.head.terms).length ≤ _;omega)
   rw [HN.out] at KV c0
   have HFR := ζ (fun v (hv : v ∈ varsOf x.head) (hb : memS v (allVars x.body) = false) => (show ruleBad x = 9 by
    rw [HE0.out,if_neg]
    intro hf
    have := List.all_eq_true.1 hf v hv
    rw [hb] at this;cases this))
   have HOK := ζ (fun (hv : ∀ v ∈ varsOf x.head,memS v (allVars x.body) = true) => (show ruleBad x = 0 by
    rw [HE0.out,if_pos (List.all_eq_true.2 hv)]))
   generalize varsOf x.head = vs at *
   generalize allVars x.body = held at *
   go_wp2_with (go_at_call 79;refine (KV.out).mono ?_;rintro e w3 ⟨⟨v3,rfl,ho3⟩,hf3⟩;obtain ⟨xa,xc,rfl,-,-,-⟩ := id (ho3.read ζS).form;have HV3 := ζ (ho3.read ζS);have HB3 := ζ (HB.out.trans (hf3.mono HB.out.size));have HH3 := ζ (RdStrs.up HRD.out hf3);clear ho3 hf3)
   have hv0 := HV0.out
   go_loop [50] (fun i => ∃ j : Nat,j ≤ vs.length ∧ i = .int .i64 j ∧ Hid (∀ v ∈ vs.take j,memS v held = true)) (fun i => vs.length - (intOf i).toNat)
   case atStart => exact ⟨0,Nat.zero_le _,rfl,ζ (by simp)⟩
   case round =>
    obtain ⟨j,hj,rfl,HJ⟩ := hrel
    by_cases hlj : j < vs.length
    ·obtain ⟨y,hy⟩ : ∃ y,vs[j]? = some y := ⟨_,ζe hlj⟩
     obtain ⟨b4,o4,rfl,-,-,hc4⟩ := RdStrs.at HV3.out hy
     have HY := ζ hy
     have KC := ζ (containsStr _ held y w3 HH3.out (by have := HH3.out.form;obtain ⟨_,_,e,_⟩ := this;injection e with _ e _;omega))
     clear hy
     have hm : memS y held = true ∨ memS y held = false := by cases memS y held <;> simp
     rcases hm with hm | hm
     ·rw [hm] at KC
      have HJ1 := ζ (show ∀ v ∈ vs.take (j + 1),memS v held = true from fun v hv => by
       rw [List.take_add_one,HY.out] at hv
       rcases List.mem_append.1 hv with hv | hv
       ·exact HJ.out v hv
       ·obtain rfl : v = y := by simpa using hv
        exact hm)
      clear hm
      go_wp2_with (go_at_call 80;refine (KC.out).mono ?_;rintro e w' ⟨rfl,rfl⟩)
      go_round
      case rel => exact ⟨j + 1,by omega,by go_num,HJ1⟩
      case measure => simp [intOf];omega
     ·rw [hm] at KC
      have HE := ζ (HFR.out y (ζm HY.out) hm)
      clear hm
      go_wp2_with (go_at_call 80;refine (KC.out).mono ?_;rintro e w' ⟨rfl,rfl⟩)
      go_ret
      exact ⟨ret_int HE.out.symm,HB3.out⟩
    ·have HE := ζ (HOK.out (by have := HJ.out;rwa [List.take_of_length_le (by omega)] at this))
     go_wp2
     go_ret
     exact ⟨ret_int HE.out.symm,HB3.out⟩
end
section
open Go.RowKit
theorem firstBad_mem : ∀ {l : List PAtom},firstBad l = 0 → ∀ a ∈ l,atomBad a = 0
 | b :: l,h,a,ha => by
  unfold firstBad at h
  split at h
  ·rename_i hb;exact absurd h hb
  ·rename_i hb
   rcases List.mem_cons.1 ha with rfl | ha
   ·simpa using hb
   ·exact firstBad_mem h a ha
theorem body_terms {l : List PAtom} (h : bodyBad l = 0) {a : PAtom} (ha : a ∈ l) : a.terms.length ≤ 4 := by
 have h1 : firstBad l = 0 := by
  unfold bodyBad at h
  split at h
  ·exact absurd h (by decide)
  ·split at h
   ·rename_i hb;exact absurd h hb
   ·rename_i hb;simpa using hb
 have h2 := firstBad_mem h1 a ha
 unfold atomBad at h2
 split at h2
 ·exact absurd h2 (by decide)
 ·split at h2
  ·exact absurd h2 (by decide)
  ·omega
theorem meetL_len : ∀ {ts : List PTerm} {l : Binds} {ns : List Str} {m : Binds},meetL l ts ns = some m → m.length ≤ l.length + ts.length
 | [],l,ns,m,h => by obtain rfl := Option.some.inj h;simp
 | t :: ts,l,[],m,h => by cases h
 | t :: ts,l,n :: ns,m,h => by
  rw [meetL] at h
  cases hv : valT l t with
  | none =>
   rw [hv] at h
   have := meetL_len h
   simp only [List.length_append,List.length_cons,List.length_nil] at this ⊢
   omega
  | some x =>
   rw [hv] at h
   dsimp only at h
   split at h
   ·have := meetL_len h
    simp only [List.length_cons]
    omega
   ·cases h
theorem stepP_short {ls : List Binds} {a : PAtom} {fs : List PFact} {c : Nat} (h : ∀ l ∈ ls,l.length ≤ c) : ∀ m ∈ stepP ls a fs,m.length ≤ c + a.terms.length := fun m hm => by
 obtain ⟨l,hl,f,-,he⟩ := mem_stepP.1 hm
 unfold meetP at he
 split at he
 ·have := meetL_len he
  have := h l hl
  omega
 ·cases he
theorem withP_body {body : List PAtom} {facts other : List PFact} {at' : Int} (h : bodyBad body ≠ 0) : withP body facts at' other = ([],bodyBad body) := if_pos h
theorem withP_facts {body : List PAtom} {facts other : List PFact} {at' : Int} (h : bodyBad body = 0) (h1 : (setF facts).1 ≠ 0) : withP body facts at' other = ([],(setF facts).1) := by
 unfold withP;rw [if_neg (by simpa using h),if_pos h1]
theorem withP_other {body : List PAtom} {facts other : List PFact} {at' : Int} (h : bodyBad body = 0) (h1 : (setF facts).1 = 0) (h2 : (setF other).1 ≠ 0) : withP body facts at' other = ([],(setF other).1) := by
 unfold withP;rw [if_neg (by simpa using h),if_neg (by simpa using h1),if_pos h2]
theorem withP_many {body : List PAtom} {facts other : List PFact} {at' : Int} (h : bodyBad body = 0) (h1 : (setF facts).1 = 0) (h2 : (setF other).1 = 0) (h3 : goP (pickP facts other at') 0 [[]] body = none) : withP body facts at' other = ([],4) := by
 unfold withP;rw [if_neg (by simpa using h),if_neg (by simpa using h1),if_neg (by simpa using h2),h3]
theorem withP_some {body : List PAtom} {facts other : List PFact} {at' : Int} {ls : List Binds} (h : bodyBad body = 0) (h1 : (setF facts).1 = 0) (h2 : (setF other).1 = 0) (h3 : goP (pickP facts other at') 0 [[]] body = some ls) : withP body facts at' other = (tidyP (notP (pickP facts other at') 0 ls body),0) := by
 unfold withP;rw [if_neg (by simpa using h),if_neg (by simpa using h1),if_neg (by simpa using h2),h3]
def WithPost (r : List Binds × Int) (w : World) (e : Ending) (w' : World) : Prop :=
 Below w.heap.size w w' ∧ ∃ v zs,e = .returned (.tuple #[v,.int .i64 r.2]) ∧ Nest w.heap.size w' v zs ∧ zs.map (·.2) = r.1
theorem with_err {r : List Binds × Int} {n : Int} {w w' : World} (h : r = ([],n)) (hb : Below w.heap.size w w') : WithPost r w (.returned (.tuple #[.slice none 0 0,.int .i64 n])) w' := by
 subst h;exact ⟨hb,_,[],rfl,Nest.nil,rfl⟩
theorem wDrewB {B : Nat} {a w : World} (h : Below B a w) (n : Nat) : Below B a (w.drewN n) := ⟨h.os,h.tape,h.output,h.size,h.block⟩
theorem goP_neg {pick : Nat → List PFact} {k : Nat} {ls : List Binds} {a : PAtom} {b : List PAtom} (h : a.neg = true) : goP pick k ls (a :: b) = goP pick (k + 1) ls b := by rw [goP,if_pos h]
theorem goP_pos {pick : Nat → List PFact} {k : Nat} {ls : List Binds} {a : PAtom} {b : List PAtom} (h : a.neg = false) (h2 : ¬ 20000 < (stepP ls a (pick k)).length) : goP pick k ls (a :: b) = goP pick (k + 1) (stepP ls a (pick k)) b := by rw [goP,if_neg (by simp [h]),if_neg h2]
theorem goP_many {pick : Nat → List PFact} {k : Nat} {ls : List Binds} {a : PAtom} {b : List PAtom} (h : a.neg = false) (h2 : 20000 < (stepP ls a (pick k)).length) : goP pick k ls (a :: b) = none := by rw [goP,if_neg (by simp [h]),if_pos h2]
theorem notP_pos {pick : Nat → List PFact} {k : Nat} {ls : List Binds} {a : PAtom} {b : List PAtom} (h : a.neg = false) : notP pick k ls (a :: b) = notP pick (k + 1) ls b := by rw [notP,if_neg (by simp [h])]
theorem notP_neg {pick : Nat → List PFact} {k : Nat} {ls : List Binds} {a : PAtom} {b : List PAtom} (h : a.neg = true) : notP pick k ls (a :: b) = notP pick (k + 1) (ls.filter fun l => !hitP a (pick k) l) b := by rw [notP,if_pos h]
theorem Nest.one_nil {B : Nat} {w : World} (hB : B ≤ w.heap.size) : Nest B (w.alloc (.cells #[.slice none 0 0] 82)) (.slice (some ⟨w.heap.size,0,none⟩) 1 1) [(.slice none 0 0,[])] :=
 ⟨OV.of_row (World.ownsRow_lit (base := B) (size := 1) (e := 82) w #[.slice none 0 0] 1 hB (by simp [maxLen]) (by simp)) (by simp [Value.oneCell']),by simp;exact Owned.nil,List.pairwise_singleton _ _,by simp [Value.ownBlock]⟩
theorem delStep {S S2 : Nat → Prop} {w W : World} {a : PAtom} {tv xv v : Value} {X : List PFact} {A L : Nat} {zs : List VB} (hbw : Below w.heap.size w W) (hN : Nest w.heap.size W v zs) (a0 : Blk W A 78 #[.bool a.neg,.string a.name,tv]) (l0 : Blk W L 24 #[xv])
 (hA : some A ≠ v.ownBlock) (hL : some L ≠ v.ownBlock) (ht : RdTerms S w tv a.terms) (hf : RdFacts S2 w xv X) (hr : Rising X) (n1 : a.terms.length ≤ 1048576) (n2 : ∀ z ∈ zs,z.2.length ≤ 1048576) (n3 : X.length ≤ 1048576) (n4 : ∀ f ∈ X,f.args.length ≤ 1048576) (n5 : zs.length ≤ 1073741824) :
 Calls Tryz.prog 100 #[v,.func (.func 101) #[] #[.pointer (some ⟨A,0,none⟩),.pointer (some ⟨L,0,none⟩)]] W fun e w' => (∃ v',e = .returned v' ∧ Nest w.heap.size w' v' (zs.filter fun z => !hitP a X z.2)) ∧ Below w.heap.size w w' := by
 have hup : ∀ W',W.grownBy W' v.ownBlock → Below w.heap.size w W' := fun W' hW => hbw.grown hW hbw.size (fun q hq => (hN.row_lt hq).1)
 refine (deleteBinds (B := w.heap.size) (q := fun z => hitP a X z.2) v zs W hN.outer (fun W' hW z hz => ?_) (fun z hz => ?_) n5).mono fun e w' ⟨⟨v',he,ho,hv⟩,hg⟩ => ⟨⟨v',he,hN.filter _ ho hg hv⟩,hup _ hg⟩
 ·exact with1Calls a tv X xv A L z.1 z.2 W' (a0.grown hW hA) (l0.grown hW hL) (ht.up (hup _ hW)) (hf.up (hup _ hW)) (OB.read ((hN.inner z hz).kept RBind.steady hW (fun q hq e => hN.off z hz q hq e))) hr n1 (by have := n2 z hz;omega) n3 n4
 ·obtain ⟨a,c,h,-⟩ := (OB.read (hN.inner z hz)).form
  exact ⟨a,_,c,h⟩
def pick2 {α : Type} (a b : α) (k : Nat) : α := if k = 0 then a else b
set_option maxRecDepth 100000 in
set_option maxHeartbeats 0 in
theorem withCalls {S S2 S3 : Nat → Prop} (bv : Value) (body : List PAtom) (fv : Value) (facts : List PFact) (at' : Int) (ov : Value) (other : List PFact) (w : World)
 (hb : RdAtoms S w bv body) (hf : RdFacts S2 w fv facts) (ho : RdFacts S3 w ov other)
 (n1 : body.length ≤ 1048576) (n2 : ∀ a ∈ body,a.terms.length ≤ 1048576) (n3 : ∀ a ∈ body,∀ t ∈ a.terms,t.name.size ≤ 1048576)
 (n4 : facts.length ≤ 1048576) (n5 : ∀ x ∈ facts,x.args.length ≤ 1048576) (n6 : other.length ≤ 1048576) (n7 : ∀ x ∈ other,x.args.length ≤ 1048576) :
 Calls Tryz.prog 83 #[bv,fv,.int .i64 at',ov] w (WithPost (withP body facts at' other) w) := by
 obtain ⟨ba,bc,rfl,-,-,-⟩ := id hb.form
 obtain ⟨fa,fc,rfl,-,-,-⟩ := id hf.form
 obtain ⟨oa,oc,rfl,-,-,-⟩ := id ho.form
 have HBD := ζ hb
 have HFA := ζ hf
 have HOT := ζ ho
 have N5 := ζ n5
 have N7 := ζ n7
 have KB := ζ (checkBody (.slice ba body.length bc) body w hb n1 n2 n3)
 clear hb hf ho n5 n7 n2 n3
 by_cases hz : bodyBad body = 0
 case neg =>
  have HE := ζ (withP_body (facts := facts) (at' := at') (other := other) hz)
  have hne : (bodyBad body != 0) = true := by simpa using hz
  generalize bodyBad body = q at *
  clear hz
  go_enter Tryz.func83,Tryz.ntmps83
  go_wp2_with (go_at_call 78;refine (KB.out).mono ?_;rintro e w1 ⟨rfl,hb1⟩;have HB1 := ζ hb1;clear hb1)
  refine bodyPost_ret (v := .tuple #[.slice none 0 0,.int .i64 q]) (by simp [results,Tryz.results83,go_sem]) rfl ?_
  exact with_err HE.out HB1.out
 rw [hz] at KB
 have HZ := ζ hz
 clear hz
 go_enter Tryz.func83,Tryz.ntmps83
 go_wp2_with (go_at_call 78;refine (KB.out).mono ?_;rintro e w1 ⟨rfl,hb1⟩;have HB1 := ζ hb1;clear hb1)
 obtain ⟨Q,hQ⟩ : ∃ Q,w1.heap.size = Q := ⟨_,rfl⟩
 have HB2 := ζ (HB1.out.alloc (Below.size HB1.out) (.cells #[.slice fa facts.length fc,.slice oa other.length oc] 24))
 have HQ2 := ζ (show Blk (w1.alloc (.cells #[.slice fa facts.length fc,.slice oa other.length oc] 24)) Q 24 #[.slice fa facts.length fc,.slice oa other.length oc] from heap_new_at hQ)
 have hwQ : w.heap.size ≤ Q := by have := Below.size HB1.out;omega
 rw [hQ]
 clear HB1 KB
 go_loopw [30,12] (fun i _ wr => ∃ k : Nat,k ≤ 2 ∧ i = .int .i64 k ∧ Hid (Below w.heap.size w wr) ∧ Hid (Blk wr Q 24 #[.slice fa facts.length fc,.slice oa other.length oc]) ∧ Hid (∀ j,j < k → (setF (pick2 facts other j)).1 = 0)) (fun i _ _ => 2 - (intOf i).toNat)
 case atStart => exact ⟨0,by omega,rfl,HB2,HQ2,ζ (fun j h => by omega)⟩
 case round =>
  clear HB2 HQ2 hQ
  obtain ⟨k,hk,rfl,HB,HQ,HS⟩ := hrel
  have hlq := HQ.out.lt
  by_cases hlt : k < 2
  ·obtain ⟨xa,xc,X,hc,hrd,hX,hn1,hn2⟩ : ∃ xa xc X,wr.cell? ⟨Q,k,none⟩ = some (.slice xa X.length xc) ∧ RdFacts (fun _ => True) wr (.slice xa X.length xc) X ∧ X = pick2 facts other k ∧ X.length ≤ 1048576 ∧ ∀ x ∈ X,x.args.length ≤ 1048576 := by
    rcases (show k = 0 ∨ k = 1 by omega) with rfl | rfl
    ·exact ⟨fa,fc,facts,HQ.out.cell 0,HFA.out.up HB.out,rfl,n4,N5.out⟩
    ·exact ⟨oa,oc,other,HQ.out.cell 1,HOT.out.up HB.out,rfl,n6,N7.out⟩
   have KS := ζ (setCalls (.slice xa X.length xc) X wr hrd (by omega) (fun x hx => by have := hn2 x hx;omega))
   have HX := ζ hX
   obtain ⟨r1,hr1⟩ : ∃ r,(setF X).1 = r := ⟨_,rfl⟩
   rw [hr1] at KS
   generalize (setF X).2 = r2 at *
   have HR1 := ζ hr1
   have i2 : (k : Int) < 2 := by omega
   clear hX hrd hn2 hr1
   by_cases h0 : r1 = 0
   ·subst h0
    have HS1 := ζ (show ∀ j,j < k + 1 → (setF (pick2 facts other j)).1 = 0 from fun j hj => by
     by_cases e : j = k
     ·subst e;rw [← HX.out];exact HR1.out
     ·exact HS.out j (by omega))
    go_wp2_with (go_at_call 53;refine (KS.out).mono ?_;rintro e w2 ⟨rfl,hb2⟩;have HB2 := ζ ((HB.out.trans (hb2.mono (Below.size HB.out))).alloc (Nat.le_trans (Below.size HB.out) hb2.size) (.cells #[.int .i64 0,.int .i64 r2] 49));have HQ2 := ζ ((HQ.out.below hb2 hlq).alloc (.cells #[.int .i64 0,.int .i64 r2] 49));clear hb2)
    go_roundw
    case rel => exact ⟨k + 1,by omega,by go_num,HB2,HQ2,HS1⟩
    case measure => simp [intOf];omega
   ·have gz : (r1 != 0) = true := by simpa using h0
    have HE := ζ (show withP body facts at' other = ([],r1) by
     have h1 := HR1.out
     rw [HX.out] at h1
     rcases (show k = 0 ∨ k = 1 by omega) with rfl | rfl
     ·have h1' : (setF facts).1 = r1 := h1
      have h2 := withP_facts (at' := at') (other := other) HZ.out (show (setF facts).1 ≠ 0 by rw [h1'];exact h0)
      rwa [h1'] at h2
     ·have h1' : (setF other).1 = r1 := h1
      have h2 := withP_other (at' := at') HZ.out (show (setF facts).1 = 0 from HS.out 0 (by omega)) (show (setF other).1 ≠ 0 by rw [h1'];exact h0)
      rwa [h1'] at h2)
    clear h0
    go_wp2_with (go_at_call 53;refine (KS.out).mono ?_;rintro e w2 ⟨rfl,hb2⟩;have HB2 := ζ ((HB.out.trans (hb2.mono (Below.size HB.out))).alloc (Nat.le_trans (Below.size HB.out) hb2.size) (.cells #[.int .i64 r1,.int .i64 r2] 49));clear hb2)
    go_quiet (fail)
    go_wp2
    refine bodyPost_ret (v := .tuple #[.slice none 0 0,.int .i64 r1]) (by simp [results,Tryz.results83,go_sem]) rfl ?_
    exact with_err HE.out (wDrewB HB2.out _)
  ·have HS0 := ζ (show (setF facts).1 = 0 from HS.out 0 (by omega))
   have HS1 := ζ (show (setF other).1 = 0 from HS.out 1 (by omega))
   have hbl := body_atoms HZ.out
   have HNE0 := ζ (Nest.one_nil (B := w.heap.size) (w := wr) (Below.size HB.out))
   have HB0 := ζ (HB.out.alloc (Below.size HB.out) (.cells #[.slice none 0 0] 82))
   clear HS HQ hlq HB
   go_wp2
   go_loopw [45,14] (fun i v wr => ∃ (k : Nat) (zs : List VB),k ≤ body.length ∧ i = .int .i64 k ∧ zs.length ≤ 20000 ∧ Hid (Below w.heap.size w wr) ∧ Hid (Nest w.heap.size wr v zs) ∧ Hid (goP (pickP facts other at') 0 [[]] body = goP (pickP facts other at') k (zs.map (·.2)) (body.drop k)) ∧ Hid (∀ z ∈ zs,z.2.length ≤ k * 4)) (fun i _ _ => body.length - (intOf i).toNat)
   case atStart => exact ⟨0,_,Nat.zero_le _,rfl,by simp,HB0,HNE0,ζ rfl,ζ (by simp)⟩
   case round =>
    clear HB0 HNE0
    obtain ⟨k,zs,hk,rfl,hzl,HB,HN,HG,HSH⟩ := hrel
    obtain ⟨va,vc,efm,-,-,-⟩ := (HN.out.outer.read RPair.steady).form
    subst efm
    by_cases hlt : k < body.length
    ·obtain ⟨a,hx⟩ : ∃ a,body[k]? = some a := ⟨_,ζe hlt⟩
     obtain ⟨b1,o1,tv,rfl,-,-,d0,d1,d2,htv⟩ := RdAtoms.at (HBD.out.up HB.out) hx
     obtain ⟨ta,tc,rfl,-,-,-⟩ := id htv.form
     have ha4 := body_terms HZ.out (ζm hx)
     have HX := ζ hx
     obtain ⟨W1,hW1⟩ : ∃ W1 : World,wr.alloc (.cells #[.bool a.neg,.string a.name,.slice ta a.terms.length tc] 78) = W1 := ⟨_,rfl⟩
     have hbx : Below wr.heap.size wr W1 := by subst hW1;exact (ζb _ _).alloc (ζn _) _
     have HB1 := ζ (HB.out.trans (hbx.mono (Below.size HB.out)))
     have HN1 := ζ (HN.out.below hbx)
     have e0 : W1.cell? ⟨wr.heap.size,0,none⟩ = some (.bool a.neg) := by subst hW1;simp
     have e1 : W1.cell? ⟨wr.heap.size,1,none⟩ = some (.string a.name) := by subst hW1;simp
     have e2 : W1.cell? ⟨wr.heap.size,2,none⟩ = some (.slice ta a.terms.length tc) := by subst hW1;simp
     have HGN := ζ (show goP (pickP facts other at') 0 [[]] body = goP (pickP facts other at') k (zs.map (·.2)) (a :: body.drop (k + 1)) by rw [HG.out,drop_cons hx])
     clear hx HG
     cases hn : a.neg
     ·rw [hn] at d0 hW1 e0
      have HGP := ζ (show ¬ 20000 < (stepP (zs.map (·.2)) a (pickP facts other at' k)).length → goP (pickP facts other at') 0 [[]] body = goP (pickP facts other at') (k + 1) (stepP (zs.map (·.2)) a (pickP facts other at' k)) (body.drop (k + 1)) from fun h => by rw [HGN.out,goP_pos hn h])
      have HMANY := ζ (show 20000 < (stepP (zs.map (·.2)) a (pickP facts other at' k)).length → goP (pickP facts other at') 0 [[]] body = none from fun h => by rw [HGN.out,goP_many hn h])
      have HNR := ζ (HN1.out.reads.read RBinds.steady)
      have HSH4 := ζ (show ∀ l ∈ zs.map (·.2),l.length ≤ k * 4 from fun l hl => by obtain ⟨z,hz,rfl⟩ := List.mem_map.1 hl;exact HSH.out z hz)
      by_cases hat : (k : Int) = at'
      ·have HPK := ζ (show pickP facts other at' k = other by unfold pickP;rw [if_pos hat])
       rw [HPK.out] at HGP HMANY
       have KS := ζ (stepCalls (.slice va zs.length vc) (zs.map (·.2)) a (.slice ta a.terms.length tc) (.slice oa other.length oc) other W1 HNR.out (htv.up hbx) (HOT.out.up HB1.out) (by rw [List.length_map];omega) (fun l hl => by have := HSH4.out l hl;omega) (by omega) (setF_set HS1.out).1 N7.out)
       rw [hn] at KS
       have HSS := ζ (stepP_short (a := a) (fs := other) (c := k * 4) HSH4.out)
       have ge := (show ((k : Int) == at') = true from beq_iff_eq.2 hat)
       clear hn htv hat HPK hbx
       obtain ⟨st,hst⟩ : ∃ st,stepP (zs.map (·.2)) a other = st := ⟨_,rfl⟩
       rw [hst] at HGP HMANY HSS
       have KS2 := ζ ((KS.out).mono (R' := fun e w' => Below W1.heap.size W1 w' ∧ ∃ v zs',e = .returned v ∧ Nest W1.heap.size w' v zs' ∧ zs'.map (·.2) = st) fun e w' ⟨h1,v,zs',h2,h3,h4⟩ => ⟨h1,v,zs',h2,h3,h4.trans hst⟩)
       clear KS hst
       by_cases hmany : 20000 < st.length
       ·have HE := ζ (withP_many HZ.out HS0.out HS1.out (HMANY.out hmany))
        have HMM := ζ hmany
        clear hmany
        go_wp2_with (go_at_call 99;refine (KS2.out).mono ?_;rintro e w2 ⟨hb2,v2,ys,rfl,hn2,hm2⟩;obtain ⟨a2,c2,rfl,-,-,-⟩ := id (hn2.outer.read RPair.steady).form;have HB2 := ζ (HB1.out.trans (hb2.mono (Below.size HB1.out)));have gl : decide ((20000 : Int) < (ys.length : Int)) = true := (by have h := congrArg List.length hm2;rw [List.length_map] at h;have := HMM.out;exact decide_eq_true (by omega));clear hb2 hn2 hm2)
        refine bodyPost_ret (v := .tuple #[.slice none 0 0,.int .i64 4]) (by simp [results,Tryz.results83,go_sem]) rfl ?_
        exact with_err HE.out HB2.out
       ·have HG1 := ζ (HGP.out hmany)
        have HMM := ζ hmany
        clear hmany
        go_wp2_with (go_at_call 99;refine (KS2.out).mono ?_;rintro e w2 ⟨hb2,v2,ys,rfl,hn2,hm2⟩;obtain ⟨a2,c2,rfl,-,-,-⟩ := id (hn2.outer.read RPair.steady).form;have HB2 := ζ (HB1.out.trans (hb2.mono (Below.size HB1.out)));have HN2 := ζ (hn2.lower (Below.size HB1.out));have HM2 := ζ hm2;have HYL := ζ (show ys.length ≤ 20000 by have h := congrArg List.length hm2;rw [List.length_map] at h;have := HMM.out;omega);have gl : decide ((20000 : Int) < (ys.length : Int)) = false := (by have := HYL.out;exact decide_eq_false (by omega));clear hb2 hn2 hm2)
        have HG2 := ζ (show goP (pickP facts other at') 0 [[]] body = goP (pickP facts other at') (k + 1) (ys.map (·.2)) (body.drop (k + 1)) by rw [HM2.out];exact HG1.out)
        have HSH1 := ζ (show ∀ z ∈ ys,z.2.length ≤ (k + 1) * 4 from fun z hz => by have := HSS.out z.2 (by rw [← HM2.out];exact List.mem_map.2 ⟨z,hz,rfl⟩);omega)
        go_roundw
        case rel => exact ⟨k + 1,ys,by omega,by go_num,HYL.out,HB2,HN2,HG2,HSH1⟩
        case measure => simp [intOf];omega
      ·have HPK := ζ (show pickP facts other at' k = facts by unfold pickP;rw [if_neg hat])
       rw [HPK.out] at HGP HMANY
       have KS := ζ (stepCalls (.slice va zs.length vc) (zs.map (·.2)) a (.slice ta a.terms.length tc) (.slice fa facts.length fc) facts W1 HNR.out (htv.up hbx) (HFA.out.up HB1.out) (by rw [List.length_map];omega) (fun l hl => by have := HSH4.out l hl;omega) (by omega) (setF_set HS0.out).1 N5.out)
       rw [hn] at KS
       have HSS := ζ (stepP_short (a := a) (fs := facts) (c := k * 4) HSH4.out)
       have ge := (show ((k : Int) == at') = false from beq_eq_false_iff_ne.2 hat)
       clear hn htv hat HPK hbx
       obtain ⟨st,hst⟩ : ∃ st,stepP (zs.map (·.2)) a facts = st := ⟨_,rfl⟩
       rw [hst] at HGP HMANY HSS
       have KS2 := ζ ((KS.out).mono (R' := fun e w' => Below W1.heap.size W1 w' ∧ ∃ v zs',e = .returned v ∧ Nest W1.heap.size w' v zs' ∧ zs'.map (·.2) = st) fun e w' ⟨h1,v,zs',h2,h3,h4⟩ => ⟨h1,v,zs',h2,h3,h4.trans hst⟩)
       clear KS hst
       by_cases hmany : 20000 < st.length
       ·have HE := ζ (withP_many HZ.out HS0.out HS1.out (HMANY.out hmany))
        have HMM := ζ hmany
        clear hmany
        go_wp2_with (go_at_call 99;refine (KS2.out).mono ?_;rintro e w2 ⟨hb2,v2,ys,rfl,hn2,hm2⟩;obtain ⟨a2,c2,rfl,-,-,-⟩ := id (hn2.outer.read RPair.steady).form;have HB2 := ζ (HB1.out.trans (hb2.mono (Below.size HB1.out)));have gl : decide ((20000 : Int) < (ys.length : Int)) = true := (by have h := congrArg List.length hm2;rw [List.length_map] at h;have := HMM.out;exact decide_eq_true (by omega));clear hb2 hn2 hm2)
        refine bodyPost_ret (v := .tuple #[.slice none 0 0,.int .i64 4]) (by simp [results,Tryz.results83,go_sem]) rfl ?_
        exact with_err HE.out HB2.out
       ·have HG1 := ζ (HGP.out hmany)
        have HMM := ζ hmany
        clear hmany
        go_wp2_with (go_at_call 99;refine (KS2.out).mono ?_;rintro e w2 ⟨hb2,v2,ys,rfl,hn2,hm2⟩;obtain ⟨a2,c2,rfl,-,-,-⟩ := id (hn2.outer.read RPair.steady).form;have HB2 := ζ (HB1.out.trans (hb2.mono (Below.size HB1.out)));have HN2 := ζ (hn2.lower (Below.size HB1.out));have HM2 := ζ hm2;have HYL := ζ (show ys.length ≤ 20000 by have h := congrArg List.length hm2;rw [List.length_map] at h;have := HMM.out;omega);have gl : decide ((20000 : Int) < (ys.length : Int)) = false := (by have := HYL.out;exact decide_eq_false (by omega));clear hb2 hn2 hm2)
        have HG2 := ζ (show goP (pickP facts other at') 0 [[]] body = goP (pickP facts other at') (k + 1) (ys.map (·.2)) (body.drop (k + 1)) by rw [HM2.out];exact HG1.out)
        have HSH1 := ζ (show ∀ z ∈ ys,z.2.length ≤ (k + 1) * 4 from fun z hz => by have := HSS.out z.2 (by rw [← HM2.out];exact List.mem_map.2 ⟨z,hz,rfl⟩);omega)
        go_roundw
        case rel => exact ⟨k + 1,ys,by omega,by go_num,HYL.out,HB2,HN2,HG2,HSH1⟩
        case measure => simp [intOf];omega
     ·rw [hn] at d0 hW1 e0
      have HG1 := ζ (show goP (pickP facts other at') 0 [[]] body = goP (pickP facts other at') (k + 1) (zs.map (·.2)) (body.drop (k + 1)) by rw [HGN.out,goP_neg hn])
      have HSH1 := ζ (show ∀ z ∈ zs,z.2.length ≤ (k + 1) * 4 from fun z hz => by have := HSH.out z hz;omega)
      clear hn htv hbx
      go_wp2
      go_roundw
      case rel => exact ⟨k + 1,zs,by omega,by go_num,hzl,HB1,HN1,HG1,HSH1⟩
      case measure => simp [intOf];omega
    ·have hge := HG.out
     rw [drop_end (by omega : body.length ≤ k)] at hge
     have hgs : goP (pickP facts other at') 0 [[]] body = some (zs.map (·.2)) := hge
     have HW := ζ (withP_some HZ.out HS0.out HS1.out hgs)
     have HND := ζ (show ∀ l ∈ zs.map (·.2),l.Nodup from fun l hl => by
      obtain ⟨-,-,h1,-⟩ := goP_sound body 0 _ _ hgs (fun l hl => by obtain rfl := List.mem_singleton.1 hl;exact List.Pairwise.nil) l hl
      exact nd_nodup h1)
     have HSL := ζ (show ∀ l ∈ zs.map (·.2),l.length ≤ 1048576 from fun l hl => by obtain ⟨z,hz,rfl⟩ := List.mem_map.1 hl;have := HSH.out z hz;omega)
     clear hge hgs HG HSH
     obtain ⟨ls0,hls0⟩ : ∃ ls0,zs.map (·.2) = ls0 := ⟨_,rfl⟩
     rw [hls0] at HW HND HSL
     have HZS := ζ hls0
     have HSUB := ζ (show ∀ z ∈ zs,z.2 ∈ ls0 from fun z hz => by rw [← hls0];exact List.mem_map.2 ⟨z,hz,rfl⟩)
     have HNT := ζ (show notP (pickP facts other at') 0 ls0 body = notP (pickP facts other at') 0 (zs.map (·.2)) body by rw [hls0])
     clear hls0
     go_wp2
     obtain ⟨zs0,hzs0⟩ : ∃ y,y = zs := ⟨_,rfl⟩
     subst hzs0
     go_loopw [67,14] (fun i v wr => ∃ (k : Nat) (zs : List VB),k ≤ body.length ∧ i = .int .i64 k ∧ zs.length ≤ 20000 ∧ Hid (Below w.heap.size w wr) ∧ Hid (Nest w.heap.size wr v zs) ∧ Hid (notP (pickP facts other at') 0 ls0 body = notP (pickP facts other at') k (zs.map (·.2)) (body.drop k)) ∧ Hid (∀ z ∈ zs,z.2 ∈ ls0)) (fun i _ _ => body.length - (intOf i).toNat)
     case atStart => exact ⟨0,zs0,Nat.zero_le _,rfl,hzl,HB,HN,HNT,HSUB⟩
     case round =>
      clear HB HN HNT HSUB HZS hzl hlt hk
      obtain ⟨k,zs,hk,rfl,hzl,HB,HN,HG,HSB⟩ := hrel
      obtain ⟨va,vc,efm,-,-,-⟩ := (HN.out.outer.read RPair.steady).form
      subst efm
      by_cases hlt : k < body.length
      ·obtain ⟨a,hx⟩ : ∃ a,body[k]? = some a := ⟨_,ζe hlt⟩
       obtain ⟨b1,o1,tv,rfl,-,hb1,d00,d10,d20,htv0⟩ := RdAtoms.at HBD.out hx
       have d0 := (ζl HB.out hb1 _).trans d00
       have d1 := (ζl HB.out hb1 _).trans d10
       have d2 := (ζl HB.out hb1 _).trans d20
       obtain ⟨ta,tc,rfl,-,-,-⟩ := id htv0.form
       have ha4 := body_terms HZ.out (ζm hx)
       have hbl1 : b1 < wr.heap.size := Nat.lt_of_lt_of_le hb1 (Below.size HB.out)
       have HGN := ζ (show notP (pickP facts other at') 0 ls0 body = notP (pickP facts other at') k (zs.map (·.2)) (a :: body.drop (k + 1)) by rw [HG.out,drop_cons hx])
       clear hx HG d00 d10 d20
       cases hn : a.neg
       ·rw [hn] at d0
        have HG1 := ζ (show notP (pickP facts other at') 0 ls0 body = notP (pickP facts other at') (k + 1) (zs.map (·.2)) (body.drop (k + 1)) by rw [HGN.out,notP_pos hn])
        have HB1 := ζ (HB.out.alloc (Below.size HB.out) (.cells #[.bool false,.string a.name,.slice ta a.terms.length tc] 78))
        have HN1 := ζ (HN.out.alloc (.cells #[.bool false,.string a.name,.slice ta a.terms.length tc] 78))
        clear hn htv0
        go_wp2
        go_roundw
        case rel => exact ⟨k + 1,zs,by omega,by go_num,hzl,HB1,HN1,HG1,HSB⟩
        case measure => simp [intOf];omega
       rw [hn] at d0
       have HGF := ζ (show notP (pickP facts other at') 0 ls0 body = notP (pickP facts other at') (k + 1) ((zs.map (·.2)).filter fun l => !hitP a (pickP facts other at' k) l) (body.drop (k + 1)) by rw [HGN.out,notP_neg hn])
       have HKA := ζ (fun o => (show Blk ((wr.alloc (.cells #[.bool true,.string a.name,.slice ta a.terms.length tc] 78)).alloc o) wr.heap.size 78 #[.bool a.neg,.string a.name,.slice ta a.terms.length tc] by rw [hn];exact (Blk.new wr _ _).alloc _))
       by_cases hat : (k : Int) = at'
       ·have HPK := ζ (show pickP facts other at' k = other by unfold pickP;rw [if_pos hat])
        rw [HPK.out] at HGF
        have ge := (show ((k : Int) == at') = true from beq_iff_eq.2 hat)
        have HKL := ζ (show Blk ((wr.alloc (.cells #[.bool true,.string a.name,.slice ta a.terms.length tc] 78)).alloc (.cells #[.slice oa other.length oc] 24)) (wr.heap.size + 1) 24 #[.slice oa other.length oc] from heap_new_at (by simp))
        have HBL := ζ (show Below wr.heap.size wr ((wr.alloc (.cells #[.bool true,.string a.name,.slice ta a.terms.length tc] 78)).alloc (.cells #[.slice oa other.length oc] 24)) from ((ζb _ _).alloc (ζn _) _).alloc (by simp) _)
        have KD := ζ (delStep (w := w) (v := .slice va zs.length vc) (A := wr.heap.size) (L := wr.heap.size + 1) (HB.out.trans (HBL.out.mono (Below.size HB.out))) (HN.out.below HBL.out) (HKA.out _) HKL.out (fun e => by have := (HN.out.row_lt e.symm).2;omega) (fun e => by have := (HN.out.row_lt e.symm).2;omega) htv0 HOT.out (setF_set HS1.out).2.1 (by omega) (fun z hz => HSL.out _ (HSB.out z hz)) (by omega) N7.out (by omega))
        clear hn hat HPK HKL HBL
        go_wp2_with (go_at_call 100;refine (KD.out).mono ?_;rintro e w2 ⟨⟨v2,rfl,hn2⟩,hb2⟩;obtain ⟨a2,c2,rfl,-,-,-⟩ := id (hn2.outer.read RPair.steady).form;have HB2 := ζ hb2;have HN2 := ζ hn2;clear hb2 hn2)
        have HG2 := ζ (show notP (pickP facts other at') 0 ls0 body = notP (pickP facts other at') (k + 1) ((zs.filter fun z => !hitP a other z.2).map (·.2)) (body.drop (k + 1)) by rw [HGF.out,List.filter_map];rfl)
        have HSB2 := ζ (show ∀ z ∈ zs.filter fun z => !hitP a other z.2,z.2 ∈ ls0 from fun z hz => HSB.out z (List.mem_filter.1 hz).1)
        have HYL := ζ (show (zs.filter fun z => !hitP a other z.2).length ≤ 20000 from Nat.le_trans (List.length_filter_le _ _) hzl)
        go_roundw
        case rel => exact ⟨k + 1,_,by omega,by go_num,HYL.out,HB2,HN2,HG2,HSB2⟩
        case measure => simp [intOf];omega
       ·have HPK := ζ (show pickP facts other at' k = facts by unfold pickP;rw [if_neg hat])
        rw [HPK.out] at HGF
        have ge := (show ((k : Int) == at') = false from beq_eq_false_iff_ne.2 hat)
        have HKL := ζ (show Blk ((wr.alloc (.cells #[.bool true,.string a.name,.slice ta a.terms.length tc] 78)).alloc (.cells #[.slice fa facts.length fc] 24)) (wr.heap.size + 1) 24 #[.slice fa facts.length fc] from heap_new_at (by simp))
        have HBL := ζ (show Below wr.heap.size wr ((wr.alloc (.cells #[.bool true,.string a.name,.slice ta a.terms.length tc] 78)).alloc (.cells #[.slice fa facts.length fc] 24)) from ((ζb _ _).alloc (ζn _) _).alloc (by simp) _)
        have KD := ζ (delStep (w := w) (v := .slice va zs.length vc) (A := wr.heap.size) (L := wr.heap.size + 1) (HB.out.trans (HBL.out.mono (Below.size HB.out))) (HN.out.below HBL.out) (HKA.out _) HKL.out (fun e => by have := (HN.out.row_lt e.symm).2;omega) (fun e => by have := (HN.out.row_lt e.symm).2;omega) htv0 HFA.out (setF_set HS0.out).2.1 (by omega) (fun z hz => HSL.out _ (HSB.out z hz)) (by omega) N5.out (by omega))
        clear hn hat HPK HKL HBL
        go_wp2_with (go_at_call 100;refine (KD.out).mono ?_;rintro e w2 ⟨⟨v2,rfl,hn2⟩,hb2⟩;obtain ⟨a2,c2,rfl,-,-,-⟩ := id (hn2.outer.read RPair.steady).form;have HB2 := ζ hb2;have HN2 := ζ hn2;clear hb2 hn2)
        have HG2 := ζ (show notP (pickP facts other at') 0 ls0 body = notP (pickP facts other at') (k + 1) ((zs.filter fun z => !hitP a facts z.2).map (·.2)) (body.drop (k + 1)) by rw [HGF.out,List.filter_map];rfl)
        have HSB2 := ζ (show ∀ z ∈ zs.filter fun z => !hitP a facts z.2,z.2 ∈ ls0 from fun z hz => HSB.out z (List.mem_filter.1 hz).1)
        have HYL := ζ (show (zs.filter fun z => !hitP a facts z.2).length ≤ 20000 from Nat.le_trans (List.length_filter_le _ _) hzl)
        go_roundw
        case rel => exact ⟨k + 1,_,by omega,by go_num,HYL.out,HB2,HN2,HG2,HSB2⟩
        case measure => simp [intOf];omega
      ·have HE := ζ (show zs.map (·.2) = notP (pickP facts other at') 0 ls0 body by rw [HG.out,drop_end (by omega : body.length ≤ k)];rfl)
       have KT := ζ (tidyCalls HN.out (Below.size HB.out) (fun z hz => HND.out _ (HSB.out z hz)) (by omega) (fun z hz => by have := HSL.out _ (HSB.out z hz);omega))
       go_wp2_with (go_at_call 102;refine (KT.out).mono ?_;rintro e w2 ⟨⟨v2,ys,rfl,hn2,hm2⟩,hb2⟩;have HB2 := ζ (HB.out.trans hb2);have HN2 := ζ hn2;have HM2 := ζ hm2;clear hn2 hm2 hb2)
       refine bodyPost_ret (v := .tuple #[v2,.int .i64 0]) (by simp [results,Tryz.results83,go_sem]) rfl ?_
       rw [HW.out]
       exact ⟨HB2.out,v2,ys,rfl,HN2.out,by rw [HM2.out,HE.out]⟩
theorem allCalls {S S2 : Nat → Prop} (bv : Value) (body : List PAtom) (fv : Value) (facts : List PFact) (w : World) (hb : RdAtoms S w bv body) (hf : RdFacts S2 w fv facts)
 (n1 : body.length ≤ 1048576) (n2 : ∀ a ∈ body,a.terms.length ≤ 1048576) (n3 : ∀ a ∈ body,∀ t ∈ a.terms,t.name.size ≤ 1048576) (n4 : facts.length ≤ 1048576) (n5 : ∀ x ∈ facts,x.args.length ≤ 1048576) :
 Calls Tryz.prog 63 #[bv,fv] w (WithPost (allP body facts) w) := by
 have K := ζ (withCalls bv body fv facts (-1) (.slice none 0 0) [] w hb hf (S3 := fun _ => True) (RdSlice.nothing (Nat.zero_le _) (fun _ => rfl)) n1 n2 n3 n4 n5 (by simp) (by simp))
 obtain ⟨ba,bc,rfl,-,-,-⟩ := id hb.form
 obtain ⟨fa,fc,rfl,-,-,-⟩ := id hf.form
 clear hb hf
 go_enter Tryz.func63,Tryz.ntmps63
 go_wp2_with (go_at_call 83;refine (K.out).mono ?_;rintro e w1 ⟨hb1,v1,zs,rfl,hn1,hm1⟩;obtain ⟨a1,c1,rfl,-,-,-⟩ := id (hn1.outer.read RPair.steady).form;have HB1 := ζ hb1;have HN1 := ζ hn1;have HM1 := ζ hm1;clear hb1 hn1 hm1)
 refine bodyPost_ret (v := .tuple #[.slice a1 zs.length c1,.int .i64 (allP body facts).2]) (by simp [results,Tryz.results63,go_sem];rfl) rfl ?_
 exact ⟨HB1.out,_,zs,rfl,HN1.out,HM1.out⟩
end
section
open Go.RowKit
theorem allReads {S S2 : Nat → Prop} (bv : Value) (body : List PAtom) (fv : Value) (facts : List PFact) (w : World) (hb : RdAtoms S w bv body) (hf : RdFacts S2 w fv facts)
 (n1 : body.length ≤ 1048576) (n2 : ∀ a ∈ body,a.terms.length ≤ 1048576) (n3 : ∀ a ∈ body,∀ t ∈ a.terms,t.name.size ≤ 1048576) (n4 : facts.length ≤ 1048576) (n5 : ∀ x ∈ facts,x.args.length ≤ 1048576) :
 Calls Tryz.prog 63 #[bv,fv] w fun e w' => (∃ a c,e = .returned (.tuple #[.slice a (allP body facts).1.length c,.int .i64 (allP body facts).2]) ∧ RdBindss (fun b => w.heap.size ≤ b) w' (.slice a (allP body facts).1.length c) (allP body facts).1) ∧ Below w.heap.size w w' := by
 refine (allCalls bv body fv facts w hb hf n1 n2 n3 n4 n5).mono fun e w' ⟨h1,v,zs,he,hn,hm⟩ => ⟨?_,h1⟩
 have hr := (hn.reads.read RBinds.steady).more RBinds.steady (S' := fun b => w.heap.size ≤ b) (fun b hb _ => hb.elim id id)
 rw [hm] at hr
 obtain ⟨a,c,rfl,-,-,-⟩ := id hr.form
 exact ⟨a,c,he,hr⟩
theorem fillKnown {S S2 : Nat → Prop} {a : PAtom} {tv lv : Value} {l : Binds} {w : World} {f : PFact} (hfl : fillP a l = some f) (ht : RdTerms S w tv a.terms) (hl : RdBinds S2 w lv l) (n1 : a.terms.length ≤ 1048576) (n2 : l.length ≤ 1073741824) :
 Calls Tryz.prog 31 #[.agg #[.bool a.neg,.string a.name,tv],lv] w fun e w' => (∃ av ac,e = .returned (.tuple #[.agg #[.string f.name,.slice av f.args.length ac],.bool true]) ∧ RdStrs (New w) w' (.slice av f.args.length ac) f.args) ∧ Below w.heap.size w w' :=
 (fillCalls a tv lv l w ht hl n1 n2).mono fun e w' ⟨h1,h2⟩ => by
  rw [hfl] at h2
  obtain ⟨v,he,hr⟩ := h2
  obtain ⟨av,ac,rfl,-,-,-⟩ := id hr.form
  exact ⟨⟨av,ac,he,hr⟩,h1⟩
theorem fill_args {a : PAtom} {l : Binds} {f : PFact} (h : fillP a l = some f) : f.args.length = a.terms.length := (fillArgs_len (fillP_name h).2).symm
end
end Go.Proofs.YtdngkcieckejoaaGreat
