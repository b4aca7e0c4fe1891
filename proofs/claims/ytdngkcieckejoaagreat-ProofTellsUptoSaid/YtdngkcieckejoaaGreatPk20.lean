/-
  THE TEXTS Ref1Of, EnvO, Ref1Var, CheckR1, CheckR2, one behind the other.
-/
import Derived.Test.YtdngkcieckejoaaGreatPk10
import Derived.Test.YtdngkcieckejoaaGreatPk18
import Derived.Test.YtdngkcieckejoaaGreatPk19
namespace Go.Proofs.YtdngkcieckejoaaGreat
section
open Go.RowKit
def foldA (acc l : List PFact) : List PFact := l.foldl (fun a f => addF f a) acc
theorem foldA_snoc (acc l : List PFact) (x : PFact) : foldA acc (l ++ [x]) = addF x (foldA acc l) := by simp [foldA,List.foldl_append]
theorem addF_len1 (f : PFact) : ∀ l,(addF f l).length ≤ l.length + 1
 | [] => by simp [addF]
 | g :: l => by
  unfold addF
  split
  ·simp
  ·split
   ·simp
   ·have := addF_len1 f l
    simp only [List.length_cons];omega
theorem foldA_length (acc : List PFact) : ∀ l,(foldA acc l).length ≤ acc.length + l.length := by
 intro l
 induction l generalizing acc with
 | nil => simp [foldA]
 | cons x l ih =>
  have h1 := ih (addF x acc)
  have h2 := addF_len1 x acc
  show (foldA (addF x acc) l).length ≤ _
  simp only [List.length_cons];omega
theorem mem_foldA (y : PFact) : ∀ (l acc : List PFact),y ∈ foldA acc l ↔ y ∈ l ∨ y ∈ acc
 | [],acc => by simp [foldA]
 | x :: l,acc => by
  have := mem_foldA y l (addF x acc)
  show y ∈ foldA (addF x acc) l ↔ _
  rw [this,mem_addF]
  simp only [List.mem_cons]
  constructor
  ·rintro (h | h | h)
   ·exact .inl (.inr h)
   ·exact .inl (.inl h)
   ·exact .inr h
  ·rintro ((h | h) | h)
   ·exact .inr (.inl h)
   ·exact .inl h
   ·exact .inr (.inr h)
theorem foldA_rising : ∀ (l acc : List PFact),Rising acc → Rising (foldA acc l)
 | [],_,h => h
 | x :: l,acc,h => foldA_rising l (addF x acc) (addF_rising x acc h)
theorem foldA_of (l : List PFact) : foldA [] l = ofF l :=
 rising_ext (foldA_rising l [] List.Pairwise.nil) (ofF_rising l) fun x => by rw [mem_foldA,mem_ofF];simp
theorem foldA_both (a b : List PFact) : foldA (ofF a) b = joinF a b :=
 rising_ext (foldA_rising b _ (ofF_rising a)) (ofF_rising _) fun x => by
  show x ∈ foldA (ofF a) b ↔ x ∈ ofF (a ++ b)
  rw [mem_foldA,mem_ofF,mem_ofF,List.mem_append]
  exact Or.comm
attribute [local go_sem ↓] Go.wp_at_zero Go.wp_at_succ
set_option maxRecDepth 100000 in
set_option maxHeartbeats 0 in
theorem ofRefU {U : Nat → Prop} (v : Value) (l : List PFact) (w : World) (h : RdFacts U w v l) (n1 : l.length ≤ 536870912) (n2 : ∀ x ∈ l,x.args.length ≤ 1073741824) :
 Calls Tryz.prog 92 #[v] w fun e w' => (∃ v',e = .returned v' ∧ RdFacts (fun q => U q ∨ w.heap.size ≤ q) w' v' (ofF l)) ∧ Below w.heap.size w w' := by
 rw [← foldA_of l]
 obtain ⟨a,c,rfl,-,-,-⟩ := id h.form
 have H := ζ h
 have N2 := ζ n2
 clear h n2
 go_enter Tryz.func92,Tryz.ntmps92
 go_wp2
 go_loopw [8,3] (fun i v wr => ∃ k : Nat,k ≤ l.length ∧ i = .int .i64 k ∧ Hid (RdFacts (fun q => U q ∨ w.heap.size ≤ q) wr v (foldA [] (l.take k))) ∧ Hid (Below w.heap.size w wr)) (fun i _ _ => l.length - (intOf i).toNat)
 case atStart => exact ⟨0,Nat.zero_le _,rfl,RdSlice.nothing (Nat.zero_le _) (fun _ => rfl),ζb _ _⟩
 case round =>
  obtain ⟨k,hk,rfl,HR,HB⟩ := hrel
  by_cases hlt : k < l.length
  ·obtain ⟨x,hx⟩ : ∃ x,l[k]? = some x := ⟨_,ζe hlt⟩
   have hn2 : x.args.length ≤ 1073741824 := N2.out x (ζm hx)
   obtain ⟨b1,o1,av,rfl,-,-,hc1,hc2,hav⟩ := RdFacts.at ((H.out.more ζF (S' := fun q => U q ∨ w.heap.size ≤ q) (fun _ hu _ => .inl hu)).agree ζF (Below.agree HB.out)) hx
   obtain ⟨va,vc,rfl,-,-,-⟩ := id HR.out.form
   obtain ⟨aa,ac,rfl,-,-,-⟩ := id hav.form
   have HT := ζ (show foldA [] (l.take (k + 1)) = addF x (foldA [] (l.take k)) by rw [List.take_add_one,hx];exact foldA_snoc [] (l.take k) x)
   have hsz := HB.out.size
   have HLL := ζ (show (foldA [] (l.take k)).length ≤ 1073741824 by have := foldA_length [] (l.take k);rw [List.length_take] at this;simp at this;omega)
   have HM := ζ (show ∀ y ∈ foldA [] (l.take k),y.args.length ≤ 1073741824 from fun y hy => N2.out y (List.mem_of_mem_take (((mem_foldA y (l.take k) []).1 hy).elim id (fun h => by simp at h))))
   have K := ζ (addRefU (U := fun q => U q ∨ w.heap.size ≤ q) (.slice va (foldA [] (l.take k)).length vc) (.slice aa x.args.length ac) (foldA [] (l.take k)) x (wr.alloc (.cells #[.string x.name,.slice aa x.args.length ac] 27)) (HR.out.agree ζF ((Agree.refl _ _).alloc _)) (hav.agree ζS ((Agree.refl _ _).alloc _)) HLL.out HM.out hn2)
   clear hav hx
   go_wp2_with (go_at_call 93;refine (K.out).mono ?_;rintro e w1 ⟨⟨v1,rfl,hr1⟩,hb1⟩;have HR1 := ζ (show RdFacts (fun q => U q ∨ w.heap.size ≤ q) w1 v1 (foldA [] (l.take (k + 1))) by rw [HT.out];exact hr1.more ζF (fun q hq _ => hq.elim id (fun h => .inr (by simp at h;omega))));have HB1 := ζ ((HB.out.alloc hsz _).trans (hb1.mono (by simp;omega)));clear hr1 hb1)
   go_wp2
   go_roundw
   case rel => exact ⟨k + 1,by omega,by go_num,HR1,HB1⟩
   case measure => simp [intOf];omega
  ·have htk : l.take k = l := List.take_of_length_le (by omega)
   rw [htk] at HR
   clear htk
   go_wp2
   go_ret
   exact ⟨⟨_,rfl,HR.out⟩,HB.out⟩
attribute [local go_sem ↓] Go.wp_at_zero Go.wp_at_succ
set_option maxRecDepth 100000 in
set_option maxHeartbeats 0 in
theorem bothRefU {U : Nat → Prop} (v0 v : Value) (l0 l : List PFact) (w : World) (h0 : RdFacts U w v0 l0) (h : RdFacts U w v l) (n0 : l0.length ≤ 536870912) (n1 : l.length ≤ 536870912) (n3 : ∀ x ∈ l0,x.args.length ≤ 1073741824) (n2 : ∀ x ∈ l,x.args.length ≤ 1073741824) :
 Calls Tryz.prog 70 #[v0,v] w fun e w' => (∃ v',e = .returned v' ∧ RdFacts (fun q => U q ∨ w.heap.size ≤ q) w' v' (joinF l0 l)) ∧ Below w.heap.size w w' := by
 rw [← foldA_both l0 l]
 obtain ⟨a,c,rfl,-,-,-⟩ := id h.form
 have H := ζ h
 have N2 := ζ n2
 clear h n2
 have K0 := ζ (ofRefU v0 l0 w h0 n0 n3)
 have N3 := ζ (show ∀ x ∈ ofF l0,x.args.length ≤ 1073741824 from fun x hx => n3 x ((mem_ofF x l0).1 hx))
 have HL0 := ζ (show (ofF l0).length ≤ 536870912 by have := foldA_length [] l0;rw [foldA_of] at this;simp at this;omega)
 clear h0 n3
 generalize ofF l0 = m at *
 go_enter Tryz.func70,Tryz.ntmps70
 go_wp2_with (go_at_call 92;refine (K0.out).mono ?_;rintro e w0 ⟨⟨v0,rfl,hr0⟩,hb0⟩;have HR0 := ζ hr0;have HB0 := ζ hb0;clear hr0 hb0)
 go_loopw [12,5] (fun i v wr => ∃ k : Nat,k ≤ l.length ∧ i = .int .i64 k ∧ Hid (RdFacts (fun q => U q ∨ w.heap.size ≤ q) wr v (foldA m (l.take k))) ∧ Hid (Below w.heap.size w wr)) (fun i _ _ => l.length - (intOf i).toNat)
 case atStart => exact ⟨0,Nat.zero_le _,rfl,HR0,HB0⟩
 case round =>
  obtain ⟨k,hk,rfl,HR,HB⟩ := hrel
  by_cases hlt : k < l.length
  ·obtain ⟨x,hx⟩ : ∃ x,l[k]? = some x := ⟨_,ζe hlt⟩
   have hn2 : x.args.length ≤ 1073741824 := N2.out x (ζm hx)
   obtain ⟨b1,o1,av,rfl,-,-,hc1,hc2,hav⟩ := RdFacts.at ((H.out.more ζF (S' := fun q => U q ∨ w.heap.size ≤ q) (fun _ hu _ => .inl hu)).agree ζF (Below.agree HB.out)) hx
   obtain ⟨va,vc,rfl,-,-,-⟩ := id HR.out.form
   obtain ⟨aa,ac,rfl,-,-,-⟩ := id hav.form
   have HT := ζ (show foldA m (l.take (k + 1)) = addF x (foldA m (l.take k)) by rw [List.take_add_one,hx];exact foldA_snoc m (l.take k) x)
   have hsz := HB.out.size
   have HLL := ζ (show (foldA m (l.take k)).length ≤ 1073741824 by have h1 := foldA_length m (l.take k);have h2 := HL0.out;have h3 : (l.take k).length ≤ l.length := (by rw [List.length_take];exact Nat.min_le_right _ _);omega)
   have HM := ζ (show ∀ y ∈ foldA m (l.take k),y.args.length ≤ 1073741824 from fun y hy => ((mem_foldA y (l.take k) m).1 hy).elim (fun h => N2.out y (List.mem_of_mem_take h)) (N3.out y))
   have K := ζ (addRefU (U := fun q => U q ∨ w.heap.size ≤ q) (.slice va (foldA m (l.take k)).length vc) (.slice aa x.args.length ac) (foldA m (l.take k)) x (wr.alloc (.cells #[.string x.name,.slice aa x.args.length ac] 27)) (HR.out.agree ζF ((Agree.refl _ _).alloc _)) (hav.agree ζS ((Agree.refl _ _).alloc _)) HLL.out HM.out hn2)
   clear hav hx
   go_wp2_with (go_at_call 93;refine (K.out).mono ?_;rintro e w1 ⟨⟨v1,rfl,hr1⟩,hb1⟩;have HR1 := ζ (show RdFacts (fun q => U q ∨ w.heap.size ≤ q) w1 v1 (foldA m (l.take (k + 1))) by rw [HT.out];exact hr1.more ζF (fun q hq _ => hq.elim id (fun h => .inr (by simp at h;omega))));have HB1 := ζ ((HB.out.alloc hsz _).trans (hb1.mono (by simp;omega)));clear hr1 hb1)
   go_wp2
   go_roundw
   case rel => exact ⟨k + 1,by omega,by go_num,HR1,HB1⟩
   case measure => simp [intOf];omega
  ·have htk : l.take k = l := List.take_of_length_le (by omega)
   rw [htk] at HR
   clear htk
   go_wp2
   go_ret
   exact ⟨⟨_,rfl,HR.out⟩,HB.out⟩
end
section
open Go.RowKit Go.Maps
def FactsQ (S : Nat → Prop) (r : List PFact × Int) (w : World) (e : Ending) (w' : World) : Prop :=
 Below w.heap.size w w' ∧ ∃ a c,e = .returned (.tuple #[.slice a r.1.length c,.int .i64 r.2]) ∧ RdFacts (fun q => S q ∨ w.heap.size ≤ q) w' (.slice a r.1.length c) r.1
theorem factsQ_err {S : Nat → Prop} {r : List PFact × Int} {n : Int} {w w' : World} (h : r = ([],n)) (hb : Below w.heap.size w w') : FactsQ S r w (.returned (.tuple #[.slice none 0 0,.int .i64 n])) w' := by
 subst h;exact ⟨hb,none,0,rfl,RdFacts.nil⟩
theorem factsQ_ok {S : Nat → Prop} {r : List PFact × Int} {l : List PFact} {w w' : World} {a : Option Addr} {c : Nat} (h : r = (l,0)) (hb : Below w.heap.size w w') (hr : RdFacts (fun q => S q ∨ w.heap.size ≤ q) w' (.slice a l.length c) l) : FactsQ S r w (.returned (.tuple #[.slice a l.length c,.int .i64 0])) w' := by
 subst h;exact ⟨hb,a,c,rfl,hr⟩
theorem RdFacts.anyS {S : Nat → Prop} {w : World} {v : Value} {l : List PFact} (h : RdFacts S w v l) : RdFacts (fun _ => True) w v l := h.more ζF (fun _ _ _ => trivial)
theorem headsRefQ {S S2 S3 : Nat → Prop} (x : PRule) (tv bv fv : Value) (facts : List PFact) (w : World) (ht : RdTerms S w tv x.head.terms) (hb : RdAtoms S2 w bv x.body) (hf : RdFacts S3 w fv facts)
 (hs : RuleSmall x) (hz : bodyBad x.body = 0) (h0 : (setF facts).1 = 0) (n4 : facts.length ≤ 1048576) (n5 : FactsSmall facts) :
 Calls Tryz.prog 69 #[.agg #[.bool x.head.neg,.string x.head.name,tv,bv],fv] w (FactsQ (fun _ => False) (headsP x facts) w) := by
 rw [← headsE_eq hz h0]
 exact (headsRef x tv bv fv facts w ht hb hf hs hz n4 fun y hy => ⟨(n5 y hy).1,(n5 y hy).2.2⟩).mono fun e w' ⟨⟨a,c,h1,h2⟩,h3⟩ => ⟨h3,a,c,h1,h2.more ζF (fun _ h _ => .inr h)⟩
attribute [local go_sem ↓] Go.wp_at_zero Go.wp_at_succ
set_option maxRecDepth 100000 in
set_option maxHeartbeats 0 in
theorem onceRef {S S2 S3 : Nat → Prop} (p : List PRule) (v sv fv : Value) (st : List Int) (n : Int) (l : List PFact) (w : World) (h : RdRules S w v p) (hst : RdInts S2 w sv st) (hf : RdFacts S3 w fv l) (hlen : st.length = p.length)
 (n1 : p.length ≤ 1048576) (n2 : ∀ r ∈ p,RuleSmall r) (hz : ∀ r ∈ p,bodyBad r.body = 0) (h0 : (setF l).1 = 0) (n4 : l.length ≤ 1048576) (n5 : FactsSmall l) :
 Calls Tryz.prog 48 #[v,sv,.int .i64 n,fv] w (FactsQ S3 (onceP n l (p.zip st) l) w) := by
 obtain ⟨a,c,rfl,-,-,-⟩ := id h.form
 obtain ⟨sa,sc,rfl,-,-,-⟩ := id hst.form
 obtain ⟨fa,fc,rfl,-,-,-⟩ := id hf.form
 have H := ζ h
 have HST := ζ hst
 have HFA := ζ hf
 have N2 := ζ n2
 have N5 := ζ n5
 have HZ := ζ hz
 have H0 := ζ h0
 have HO1 := ζ (hf.more ζF (S' := fun q => S3 q ∨ w.heap.size ≤ q) (fun _ h _ => .inl h))
 have HB1 := ζ (ζb w.heap.size w)
 have hl200 := (setF_set h0).1
 have NA := ζ (fun x (hx : x ∈ l) => (n5 x hx).1)
 have HLEN := ζ hlen
 clear h hst hf n2 n5 hz h0 hlen
 go_enter Tryz.func48,Tryz.ntmps48
 go_wp2
 go_loopw [18,10] (fun i v wr => ∃ (k : Nat) (o : List PFact) (oa : Option Addr) (oc : Nat),k ≤ p.length ∧ i = .int .i64 k ∧ v = .slice oa o.length oc ∧ o.length ≤ 200 ∧ Hid (∀ x ∈ o,x.args.length ≤ 1048576) ∧ Hid (RdFacts (fun q => S3 q ∨ w.heap.size ≤ q) wr (.slice oa o.length oc) o) ∧ Hid (Below w.heap.size w wr) ∧ Hid (onceP n l (p.zip st) l = onceP n l ((p.zip st).drop k) o)) (fun i _ _ => p.length - (intOf i).toNat)
 case atStart => exact ⟨0,l,_,_,Nat.zero_le _,rfl,rfl,hl200,NA,HO1,HB1,ζ rfl⟩
 case round =>
  clear HO1 HB1
  obtain ⟨k,o,oa,oc,hk,rfl,rfl,hol,HOA,HO,HB,HE⟩ := hrel
  by_cases hlt : k < p.length
  ·obtain ⟨x,hx⟩ : ∃ x,p[k]? = some x := ⟨_,ζe hlt⟩
   obtain ⟨s,hsx⟩ : ∃ s,st[k]? = some s := ⟨_,ζe (by have := HLEN.out;omega)⟩
   have hmem := ζm hx
   obtain ⟨b1,o1,tv,bv,rfl,-,hb1,d0,d1,d2,d3,htv,hbv⟩ := RdRules.at H.out hx
   obtain ⟨ta,tc,rfl,-,-,-⟩ := id htv.form
   obtain ⟨ba,bc,rfl,-,-,-⟩ := id hbv.form
   have HRA := ζ (show RuleAt S w b1 (o1 + k * 4) x (.slice ta x.head.terms.length tc) (.slice ba x.body.length bc) from ⟨hb1,d0,d1,d2,d3,htv,hbv⟩)
   obtain ⟨b2,o2,rfl,-,hb2,e0⟩ := RdInts.at HST.out hsx
   have f0 := (ζl HB.out hb2 _).trans e0
   have HS := ζ (N2.out x hmem)
   clear d0 d1 d2 d3 e0
   obtain ⟨-,d0,d1,d2,d3,-,-⟩ := HRA.out.up HB.out
   have hsz := HB.out.size
   have hbl2 : b2 < wr.heap.size := Nat.lt_of_lt_of_le hb2 hsz
   have hbx : Below wr.heap.size wr (wr.alloc (.cells #[.bool x.head.neg,.string x.head.name,.slice ta x.head.terms.length tc,.slice ba x.body.length bc] 81)) := (ζb _ _).alloc (ζn _) _
   have HB1 := ζ (HB.out.trans (hbx.mono hsz))
   have HO1 := ζ (RdFacts.hold HO.out hbx)
   have HE1 := ζ (show onceP n l (p.zip st) l = onceP n l ((x,s) :: (p.zip st).drop (k + 1)) o by rw [HE.out,at_drop (zip_at hx hsx)])
   have i2 : ¬ (st.length : Int) ≤ (k : Int) := by have := HLEN.out;omega
   have i3 : (k : Int) < (st.length : Int) := by have := HLEN.out;omega
   have i4 : (0 : Int) ≤ (k : Int) := by omega
   have hzx := HZ.out x hmem
   clear hx hsx hmem htv hbv hbx HE
   by_cases hs : s = n
   case neg =>
    have g1 : (s != n) = true := by simpa using hs
    have HE2 := ζ (HE1.out.trans (once_skip hs))
    clear hs HE1
    go_wp2
    go_roundw
    case rel => exact ⟨k + 1,o,_,_,by omega,by go_num,rfl,hol,HOA,HO1,HB1,HE2⟩
    case measure => simp [intOf];omega
   have g1 : (s != n) = false := by simpa using hs
   have KH := ζ (headsRefQ x (.slice ta x.head.terms.length tc) (.slice ba x.body.length bc) (.slice fa l.length fc) l (wr.alloc (.cells #[.bool x.head.neg,.string x.head.name,.slice ta x.head.terms.length tc,.slice ba x.body.length bc] 81)) (HRA.out.up HB1.out).t (HRA.out.up HB1.out).b (HFA.out.up HB1.out) HS.out hzx H0.out n4 N5.out)
   have HHL := ζ (heads_len x l)
   have HHA := ζ (show ∀ y ∈ (headsP x l).1,y.args.length ≤ 1048576 from fun y hy => by rw [heads_args hy];exact HS.out.h1)
   have H1 := ζ (fun (he : (headsP x l).2 ≠ 0) => HE1.out.trans (once_err hs he))
   have H2 := ζ (fun (he : (headsP x l).2 = 0) hm => HE1.out.trans (once_many hs he hm))
   have H3 := ζ (fun (he : (headsP x l).2 = 0) hm => HE1.out.trans (once_next hs he hm))
   clear hs HE1
   generalize headsP x l = r at *
   obtain ⟨hl,q⟩ := r
   dsimp only at *
   by_cases hq : q = 0
   case neg =>
    have g2 : (q != 0) = true := by simpa using hq
    have HE2 := ζ (H1.out hq)
    clear hq H1 H2 H3
    go_wp2_with (go_at_call 69;refine (KH.out).mono ?_;rintro e w3 ⟨hb3,a3,c3,rfl,ho3⟩;have HB3 := ζ (HB1.out.trans (hb3.mono (Below.size HB1.out)));clear hb3 ho3)
    go_ret2
    exact factsQ_err HE2.out HB3.out
   subst hq
   have KJ := ζ (fun W va vb (h1 : RdFacts (fun q => S3 q ∨ w.heap.size ≤ q) W va o) (h2 : RdFacts (fun q => S3 q ∨ w.heap.size ≤ q) W vb hl) => bothRefU va vb o hl W h1 h2 (by omega) (by have := HHL.out;omega) (fun x hx => by have := HOA.out x hx;omega) (fun x hx => by have := HHA.out x hx;omega))
   have HJA := ζ (show ∀ y ∈ joinF o hl,y.args.length ≤ 1048576 from fun y hy => by
    rcases (mem_joinF _ _ y).1 hy with h | h
    ·exact HOA.out y h
    ·exact HHA.out y h)
   have H4 := ζ (H2.out rfl)
   have H5 := ζ (H3.out rfl)
   clear H1 H2 H3
   generalize joinF o hl = j at *
   by_cases hm : 200 < j.length
   ·have HE2 := ζ (H4.out hm)
    have i5 : (200 : Int) < (j.length : Int) := by omega
    clear hm H4 H5
    go_wp2_with (first
     | (go_at_call 70;have hh := HR3.out;clear hh;refine (KJ.out _ _ _ HO3.out HR3.out).mono ?_;rintro e w4 ⟨⟨v4,rfl,ho4⟩,hb4⟩;obtain ⟨a4,c4,rfl,-,-,-⟩ := id ho4.form;have HB4 := ζ (HB3.out.trans (hb4.mono (Below.size HB3.out)));clear hb4 ho4)
     | (go_at_call 69;refine (KH.out).mono ?_;rintro e w3 ⟨hb3,a3,c3,rfl,ho3⟩;have HB3 := ζ (HB1.out.trans (hb3.mono (Below.size HB1.out)));have HR3 := ζ (ho3.more ζF (S' := fun q => S3 q ∨ w.heap.size ≤ q) (fun q hq _ => hq.elim False.elim (fun h => .inr (Nat.le_trans (Below.size HB1.out) h))));have HO3 := ζ (RdFacts.hold HO1.out hb3);clear hb3 ho3))
    go_ret2
    exact factsQ_err HE2.out HB4.out
   ·have HE2 := ζ (H5.out hm)
    have i5 : ¬ (200 : Int) < (j.length : Int) := by omega
    have hjl : j.length ≤ 200 := by omega
    clear hm H4 H5
    go_wp2_with (first
     | (go_at_call 70;have hh := HR3.out;clear hh;refine (KJ.out _ _ _ HO3.out HR3.out).mono ?_;rintro e w4 ⟨⟨v4,rfl,ho4⟩,hb4⟩;obtain ⟨a4,c4,rfl,-,-,-⟩ := id ho4.form;have HB4 := ζ (HB3.out.trans (hb4.mono (Below.size HB3.out)));have HO4 := ζ (ho4.more ζF (S' := fun q => S3 q ∨ w.heap.size ≤ q) (fun q hq _ => hq.elim id (fun h => .inr (Nat.le_trans (Below.size HB3.out) h))));clear hb4 ho4)
     | (go_at_call 69;refine (KH.out).mono ?_;rintro e w3 ⟨hb3,a3,c3,rfl,ho3⟩;have HB3 := ζ (HB1.out.trans (hb3.mono (Below.size HB1.out)));have HR3 := ζ (ho3.more ζF (S' := fun q => S3 q ∨ w.heap.size ≤ q) (fun q hq _ => hq.elim False.elim (fun h => .inr (Nat.le_trans (Below.size HB1.out) h))));have HO3 := ζ (RdFacts.hold HO1.out hb3);clear hb3 ho3))
    go_roundw
    case rel => exact ⟨k + 1,j,_,_,by omega,by go_num,rfl,hjl,HJA,HO4,HB4,HE2⟩
    case measure => simp [intOf];omega
  ·have HE2 := ζ (show onceP n l (p.zip st) l = (o,0) by rw [HE.out,List.drop_eq_nil_of_le (by rw [List.length_zip];have := HLEN.out;omega)];rfl)
   go_wp2
   go_ret2
   exact factsQ_ok HE2.out HB.out HO.out
end
section
open Go.RowKit
theorem variable_word (s : Str) : variableS s = (s.data.toList.all signB && (decide (0 < s.size) && decide (s.size ≤ 12)) && (match s.data.toList with | [] => false | c :: _ => upperB c)) := by
 have e : s.data.toList.length = s.size := by rw [Array.length_toList];rfl
 unfold variableS varL
 rw [← e]
 cases s.data.toList with
 | nil => simp
 | cons c cs =>
  simp only [List.all_cons,List.length_cons]
  cases hu : upperB c
  ·simp
  ·have : signB c = true := by simp [signB,hu]
   rw [this]
   have h0 : decide (0 < cs.length + 1) = true := by simp
   rw [h0]
   cases cs.all signB <;> simp
set_option maxHeartbeats 0 in
theorem variableRef (s : Str) (w : World) (hsz : s.size ≤ 1099511627776) : Calls Tryz.prog 105 #[.string s] w fun e w' => e = .returned (.bool (variableS s)) ∧ Below w.heap.size w w' := by
 have K := ζ (wordRef s w hsz)
 have HN := ζ (variable_word s)
 have e : s.data.toList.length = s.size := by rw [Array.length_toList];rfl
 obtain ⟨r,hr⟩ : ∃ r,(s.data.toList.all signB && (decide (0 < s.size) && decide (s.size ≤ 12))) = r := ⟨_,rfl⟩
 rw [hr] at K HN
 cases hr1 : r
 ·subst hr1
  clear hr
  go_enter Tryz.func105,Tryz.ntmps105
  go_wp2_with (go_at_call 71;refine (K.out).mono ?_;rintro e w' ⟨rfl,hb⟩)
  go_ret
  exact ⟨ret_bool (by rw [HN.out];rfl),hb⟩
 ·subst hr1
  have h0 : 0 < s.size := by
   simp only [Bool.and_eq_true,decide_eq_true_eq] at hr
   exact hr.2.1
  have HL := ζ (show variableS s = upperB s[0] by
   rw [HN.out]
   have := drop_bytes s 0 h0
   rw [List.drop_zero] at this
   rw [this];rfl)
  clear hr e
  have h0' : (0 : Int) < (s.size : Int) := by omega
  by_cases h1 : 65 ≤ s[0].toNat
  ·have i1 : (65 : Int) ≤ (s[0].toNat : Int) := by omega
   by_cases h2 : s[0].toNat ≤ 90
   ·have i2 : (s[0].toNat : Int) ≤ 90 := by omega
    have HU := ζ (show upperB s[0] = true from decide_eq_true ⟨h1,h2⟩)
    clear h1 h2
    go_enter Tryz.func105,Tryz.ntmps105
    go_wp2_with (go_at_call 71;refine (K.out).mono ?_;rintro e w' ⟨rfl,hb⟩;have HB := ζ hb;clear hb)
    go_ret
    exact ⟨ret_bool (by rw [HL.out,HU.out] <;> first | rfl | exact decide_eq_true i2 | exact decide_eq_false (by omega)),HB.out⟩
   ·have i2 : ¬ ((s[0].toNat : Int) ≤ 90) := by omega
    have HU := ζ (show upperB s[0] = false from decide_eq_false (fun h => h2 h.2))
    clear h1 h2
    go_enter Tryz.func105,Tryz.ntmps105
    go_wp2_with (go_at_call 71;refine (K.out).mono ?_;rintro e w' ⟨rfl,hb⟩;have HB := ζ hb;clear hb)
    go_ret
    exact ⟨ret_bool (by rw [HL.out,HU.out] <;> first | rfl | exact decide_eq_true i2 | exact decide_eq_false (by omega)),HB.out⟩
  ·have i1 : ¬ ((65 : Int) ≤ (s[0].toNat : Int)) := by omega
   have HU := ζ (show upperB s[0] = false from decide_eq_false (fun h => h1 h.1))
   clear h1
   go_enter Tryz.func105,Tryz.ntmps105
   go_wp2_with (go_at_call 71;refine (K.out).mono ?_;rintro e w' ⟨rfl,hb⟩;have HB := ζ hb;clear hb)
   go_ret
   exact ⟨ret_bool (by rw [HL.out,HU.out]),HB.out⟩
end
section
open Go.RowKit Go.Maps
theorem Owned.apart {k B m : Nat} {R : (Nat → Prop) → World → List Value → Str → Prop} {e : TypeId} {w w' : World} {v : Value} {l : List Str} (hR : Steady R) (h : Owned k R B e (fun _ => False) w v l) (hg : w.grownBy w' (some m)) (hne : ∀ q,v.ownBlock = some q → q ≠ m) : Owned k R B e (fun _ => False) w' v l :=
 h.keep hR ⟨hg.size,fun _ hb _ => hb.elim⟩ fun g hgg => hg.block g (h.row_lt hgg).2 (fun e => hne g hgg (Option.some.inj e))
set_option maxRecDepth 100000 in
set_option maxHeartbeats 0 in
theorem varsRef {S : Nat → Prop} (x : PAtom) (tv : Value) (w : World) (h : RdTerms S w tv x.terms) (n1 : x.terms.length ≤ 1048576) (n2 : ∀ t ∈ x.terms,t.name.size ≤ 1048576) :
 Calls Tryz.prog 106 #[.agg #[.bool x.neg,.string x.name,tv]] w fun e w' => (∃ v,e = .returned v ∧ Owned 1 RStr w.heap.size 9 (fun _ => False) w' v (varsOf x)) ∧ Below w.heap.size w w' := by
 obtain ⟨a,c,rfl,-,-,-⟩ := id h.form
 have H := ζ h
 have N2 := ζ n2
 clear h n2
 have hmm := @run_makeMap Tryz.prog
 obtain ⟨W0,hW0⟩ : ∃ W0,w.alloc (.cells #[.bool x.neg,.string x.name,.slice a x.terms.length c] 78) = W0 := ⟨_,rfl⟩
 have HB0 := ζ (show Below w.heap.size w W0 from by rw [← hW0];exact (ζb _ _).alloc (ζn _) _)
 have HA0 := ζ (show Blk W0 w.heap.size 78 #[.bool x.neg,.string x.name,.slice a x.terms.length c] from by rw [← hW0];exact Blk.new w _ _)
 have HB1 := ζ (HB0.out.alloc HB0.out.size (.map #[] 0))
 have HM1 := ζ (MapB.made W0)
 have c2 := (HA0.out.alloc (.map #[] 0)).cell 2
 simp only [ζc] at c2
 have hms : w.heap.size < W0.heap.size := HA0.out.lt
 go_enter Tryz.func106,Tryz.ntmps106
 go_wp2
 generalize HMB : W0.heap.size = mb at *
 clear HMB
 go_loopw [11,3] (fun i v wr => ∃ k : Nat,k ≤ x.terms.length ∧ i = .int .i64 k ∧ Hid (Owned 1 RStr w.heap.size 9 (fun _ => False) wr v (varsF [] (x.terms.take k))) ∧ Hid (Below w.heap.size w wr) ∧ Hid (MapB wr mb (varsF [] (x.terms.take k))) ∧ Hid (∀ q,v.ownBlock = some q → q ≠ mb)) (fun i _ _ => x.terms.length - (intOf i).toNat)
 case atStart => exact ⟨0,Nat.zero_le _,rfl,ζ Owned.nil,HB1,HM1,ζ (fun q h => by cases h)⟩
 case round =>
  clear HB0 HB1 HM1 HA0 c2 hW0
  obtain ⟨k,hk,rfl,HO,HB,HM,HQ⟩ := hrel
  by_cases hlt : k < x.terms.length
  ·obtain ⟨t,ht⟩ : ∃ t,x.terms[k]? = some t := ⟨_,ζe hlt⟩
   obtain ⟨b1,o1,rfl,-,-,d0,d1⟩ := RdTerms.at (H.out.up HB.out) ht
   have hsz := HB.out.size
   have hts := N2.out t (ζm ht)
   have HT := ζ (show varsF [] (x.terms.take (k + 1)) = if t.var && !memS t.name (varsF [] (x.terms.take k)) then varsF [] (x.terms.take k) ++ [t.name] else varsF [] (x.terms.take k) by rw [List.take_add_one,ht];exact varsF_snoc t _ _)
   have HLL := ζ (show (varsF [] (x.terms.take k)).length ≤ x.terms.length by have := varsF_length (x.terms.take k) [];rw [List.length_take] at this;simp at this;omega)
   generalize varsF [] (x.terms.take k) = vs at *
   obtain ⟨va,vc,rfl,-,-,-⟩ := id (HO.out.read ζS).form
   have HB1 := ζ (HB.out.alloc hsz (.cells #[.bool t.var,.string t.name] 104))
   have HO1 := ζ (HO.out.alloc ζS (.cells #[.bool t.var,.string t.name] 104))
   have HM1 := ζ (HM.out.alloc (.cells #[.bool t.var,.string t.name] 104))
   have hget := HM1.out.get (s := t.name) (by unfold maxLen;omega)
   have hmlt := HM.out.lt
   clear ht
   cases hv : t.var
   ·rw [hv] at HT HB1 HO1 HM1 d0
    have HO2 := ζ (show Owned 1 RStr w.heap.size 9 (fun _ => False) _ _ (varsF [] (x.terms.take (k + 1))) by rw [HT.out,if_neg (by simp)];exact HO1.out)
    have HM2 := ζ (show MapB _ mb (varsF [] (x.terms.take (k + 1))) by rw [HT.out,if_neg (by simp)];exact HM1.out)
    clear hv
    go_wp2
    go_roundw
    case rel => exact ⟨k + 1,by omega,by go_num,HO2,HB1,HM2,HQ⟩
    case measure => simp [intOf];omega
   ·rw [hv] at HT HB1 HO1 HM1 d0 hget
    clear hv
    have hm : memS t.name vs = true ∨ memS t.name vs = false := by cases memS t.name vs <;> simp
    rcases hm with hm | hm
    ·rw [hm] at HT hget
     have HO2 := ζ (show Owned 1 RStr w.heap.size 9 (fun _ => False) _ _ (varsF [] (x.terms.take (k + 1))) by rw [HT.out,if_neg (by simp)];exact HO1.out)
     have HM2 := ζ (show MapB _ mb (varsF [] (x.terms.take (k + 1))) by rw [HT.out,if_neg (by simp)];exact HM1.out)
     clear hm
     go_wp2
     go_roundw
     case rel => exact ⟨k + 1,by omega,by go_num,HO2,HB1,HM2,HQ⟩
     case measure => simp [intOf];omega
    ·rw [hm,if_pos (by rfl)] at HT
     rw [hm] at hget
     obtain ⟨w5,hput,hm5,hg5⟩ := HM1.out.put (by have := HLL.out;unfold maxLen;omega) (s := t.name) (by unfold maxLen;omega)
     have HM5 := ζ hm5
     have HB5 := ζ (HB1.out.grown hg5 (by simp;omega) (fun q hq => by injection hq with e;omega))
     have HO5 := ζ (HO1.out.apart ζS hg5 HQ.out)
     have HA5 := ζ ((Blk.new wr 104 #[.bool true,.string t.name]).grown hg5 (fun e => by injection e with e;omega))
     have e1 := HA5.out.cell 1
     simp only [ζc] at e1
     have hm5l := HM5.out.lt
     have hwl : (wr.alloc (.cells #[.bool true,.string t.name] 104)).heap.size ≤ w5.heap.size := hg5.size
     clear hm hm5 hg5
     go_wp2_with (at_builtin;refine wpList_append_one (B := w.heap.size) (e := 9) (S := fun _ => False) (by rfl) _ _ 25 (by rfl) ζS rowStrs _ vs (by rfl) (HO5.out.alloc ζS _) w5.heap.size 1 #[.string t.name] 9 (0,0) t.name (by rfl) (heap_alloc_new _ _) rfl (by simp [Value.oneCell']) rfl (by have := HLL.out;omega) (by simp;omega) ?_;intro v2 w2 hown2 hg2 hat2;have HO2 := ζ (show Owned 1 RStr w.heap.size 9 (fun _ => False) w2 v2 (varsF [] (x.terms.take (k + 1))) by rw [HT.out];exact hown2);have HB2 := ζ ((HB5.out.alloc HB5.out.size _).grown hg2 (by simp;have := HB5.out.size;omega) (fun q hq => (HO5.out.row_lt hq).1));have HM2 := ζ (show MapB w2 mb (varsF [] (x.terms.take (k + 1))) by rw [HT.out];exact (HM5.out.alloc _).kept hg2 (fun e => HQ.out mb e.symm rfl));have HQ2 := ζ (show ∀ q,v2.ownBlock = some q → q ≠ mb from fun q hq => by rcases hat2 with h2 | h2 <;> rw [h2] at hq;(exact HQ.out q hq);(injection hq with e;simp at e;omega));clear hown2 hg2 hat2)
     go_wp2
     go_roundw
     case rel => exact ⟨k + 1,by omega,by go_num,HO2,HB2,HM2,HQ2⟩
     case measure => simp [intOf];omega
  ·have htk : x.terms.take k = x.terms := List.take_of_length_le (by omega)
   rw [htk] at HO
   clear htk
   go_wp2
   go_ret
   exact ⟨⟨_,rfl,HO.out⟩,HB.out⟩
set_option maxRecDepth 100000 in
set_option maxHeartbeats 0 in
theorem wrongAtomRef {S : Nat → Prop} (x : PAtom) (tv : Value) (w : World) (h : RdTerms S w tv x.terms)
 (n0 : x.name.size ≤ 1099511627776) (n1 : x.terms.length ≤ 1073741824) (n2 : ∀ t ∈ x.terms,t.name.size ≤ 1099511627776) :
 Calls Tryz.prog 89 #[.agg #[.bool x.neg,.string x.name,tv]] w fun e w' => e = .returned (.int .i64 (atomBad x)) ∧ Below w.heap.size w w' := by
 obtain ⟨a,c,rfl,-,-,-⟩ := id h.form
 have H := ζ h
 have N2 := ζ n2
 clear h n2
 have KN := ζ (fun W => namedRef x.name W n0)
 obtain ⟨W0,hW0⟩ : ∃ W0,w.alloc (.cells #[.bool x.neg,.string x.name,.slice a x.terms.length c] 78) = W0 := ⟨_,rfl⟩
 have HB0 := ζ (show Below w.heap.size w W0 from by rw [← hW0];exact (ζb _ _).alloc (ζn _) _)
 have HA0 := ζ (show Blk W0 w.heap.size 78 #[.bool x.neg,.string x.name,.slice a x.terms.length c] from by rw [← hW0];exact Blk.new w _ _)
 have c1 := HA0.out.cell 1
 have c2 := HA0.out.cell 2
 simp only [ζc] at c1 c2
 cases hn : named x.name
 ·rw [hn] at KN
  have HE := ζ (show atomBad x = 7 by unfold atomBad;rw [hn];rfl)
  clear hn
  go_enter Tryz.func89,Tryz.ntmps89
  go_wp2_with (go_at_call 49;refine (KN.out _).mono ?_;rintro e w' ⟨rfl,hb⟩;have HBF := ζ (HB0.out.trans (hb.mono HB0.out.size));clear hb)
  go_ret
  exact ⟨ret_int HE.out.symm,HBF.out⟩
 rw [hn] at KN
 have HN := ζ hn
 clear hn
 by_cases h4 : 4 < x.terms.length
 ·have i4 : (4 : Int) < (x.terms.length : Int) := by omega
  have HE := ζ (show atomBad x = 5 by unfold atomBad;rw [HN.out,if_neg (by simp),if_pos h4])
  go_enter Tryz.func89,Tryz.ntmps89
  go_wp2_with (go_at_call 49;refine (KN.out _).mono ?_;rintro e w' ⟨rfl,hb⟩;have HBF := ζ (HB0.out.trans (hb.mono HB0.out.size));have HAF := ζ (HA0.out.below hb HA0.out.lt);clear hb;have d2 := HAF.out.cell 2;simp only [ζc] at d2)
  go_ret
  exact ⟨ret_int HE.out.symm,HBF.out⟩
 have i4 : ¬ (4 : Int) < (x.terms.length : Int) := by omega
 go_enter Tryz.func89,Tryz.ntmps89
 go_wp2_with (go_at_call 49;refine (KN.out _).mono ?_;rintro e w' ⟨rfl,hb⟩;have HBF := ζ (HB0.out.trans (hb.mono HB0.out.size));have HAF := ζ (HA0.out.below hb HA0.out.lt);clear hb;have d2 := HAF.out.cell 2;simp only [ζc] at d2)
 go_loopw [16] (fun i wr => ∃ k : Nat,k ≤ x.terms.length ∧ i = .int .i64 k ∧ Hid (∀ t ∈ x.terms.take k,termOk t = true) ∧ Hid (Below w.heap.size w wr)) (fun i _ => x.terms.length - (intOf i).toNat)
 case atStart => exact ⟨0,Nat.zero_le _,rfl,ζ (by simp),HBF⟩
 case round =>
  clear HBF HAF d2 c1 c2 HB0 HA0
  obtain ⟨k,hk,rfl,HO,HB⟩ := hrel
  by_cases hlt : k < x.terms.length
  ·obtain ⟨t,ht⟩ : ∃ t,x.terms[k]? = some t := ⟨_,ζe hlt⟩
   obtain ⟨b1,o1,rfl,-,-,d0,d1⟩ := RdTerms.at (H.out.up HB.out) ht
   have hsz := HB.out.size
   have hbb := HB.out.alloc hsz (.cells #[.bool t.var,.string t.name] 104)
   have HB1 := ζ hbb
   have HT1 := ζ (Blk.new wr 104 #[.bool t.var,.string t.name])
   have HS1 := ζ (show termOk t = true → ∀ y ∈ x.terms.take (k + 1),termOk y = true from fun hy y hm => by
    rw [List.take_add_one,ht] at hm
    rcases List.mem_append.1 hm with hm | hm
    ·exact HO.out y hm
    ·obtain rfl : y = t := by simpa using hm
     exact hy)
   have HBD := ζ (show termOk t = false → atomBad x = 7 from fun hy => atomBad_term HN.out h4 (ζm ht) hy)
   have KV := ζ (fun W => variableRef t.name W (N2.out t (ζm ht)))
   have KM := ζ (fun W => namedRef t.name W (N2.out t (ζm ht)))
   clear ht hbb
   have hto : termOk t = if t.var then variableS t.name else named t.name := rfl
   rw [hto] at HS1 HBD
   clear hto
   cases hv : t.var
   all_goals
    rw [hv] at HS1 HBD d0 HB1 HT1
    clear hv
   ·have hm : named t.name = true ∨ named t.name = false := by cases named t.name <;> simp
    rcases hm with hm | hm
    ·rw [hm] at KM
     have HO1 := ζ (HS1.out (by simpa using hm))
     clear hm HS1 HBD
     go_wp2_with (go_at_call 49;refine (KM.out _).mono ?_;rintro e w' ⟨rfl,hb⟩;have HBF := ζ (HB1.out.trans (hb.mono HB1.out.size));clear hb)
     go_roundw
     case rel => exact ⟨k + 1,by omega,by go_num,HO1,HBF⟩
     case measure => simp [intOf];omega
    ·rw [hm] at KM
     have HE := ζ (HBD.out (by simpa using hm))
     clear hm HS1 HBD
     go_wp2_with (go_at_call 49;refine (KM.out _).mono ?_;rintro e w' ⟨rfl,hb⟩;have HBF := ζ (HB1.out.trans (hb.mono HB1.out.size));clear hb)
     go_ret
     exact ⟨ret_int HE.out.symm,HBF.out⟩
   ·have hm : variableS t.name = true ∨ variableS t.name = false := by cases variableS t.name <;> simp
    rcases hm with hm | hm
    ·rw [hm] at KV
     have HO1 := ζ (HS1.out (by simpa using hm))
     clear hm HS1 HBD
     go_wp2_with (go_at_call 105;refine (KV.out _).mono ?_;rintro e w' ⟨rfl,hb⟩;have HBF := ζ (HB1.out.trans (hb.mono HB1.out.size));have HTF := ζ (HT1.out.below hb HT1.out.lt);clear hb;have e0 := HTF.out.cell 0;have e1 := HTF.out.cell 1;simp only [ζc] at e0 e1)
     go_roundw
     case rel => exact ⟨k + 1,by omega,by go_num,HO1,HBF⟩
     case measure => simp [intOf];omega
    ·rw [hm] at KV
     have HE := ζ (HBD.out (by simpa using hm))
     clear hm HS1 HBD
     go_wp2_with (go_at_call 105;refine (KV.out _).mono ?_;rintro e w' ⟨rfl,hb⟩;have HBF := ζ (HB1.out.trans (hb.mono HB1.out.size));have HTF := ζ (HT1.out.below hb HT1.out.lt);clear hb;have e0 := HTF.out.cell 0;have e1 := HTF.out.cell 1;simp only [ζc] at e0 e1)
     go_ret
     exact ⟨ret_int HE.out.symm,HBF.out⟩
  ·have HE := ζ (show atomBad x = 0 from atomBad_ok HN.out h4 (by have := HO.out;rwa [List.take_of_length_le (by omega)] at this))
   go_wp2
   go_ret
   exact ⟨ret_int HE.out.symm,HB.out⟩
end
section
open Go.RowKit Go.Maps
theorem memS_append (v : Str) : ∀ l m : List Str,memS v (l ++ m) = (memS v l || memS v m)
 | [],m => by simp [memS]
 | x :: l,m => by rw [List.cons_append,memS,memS,memS_append v l m,Bool.or_assoc]
theorem memS_snoc (v u : Str) (l : List Str) : memS v (l ++ [u]) = (memS v l || decide (v = u)) := by rw [memS_append];simp [memS]
theorem memS_held (v : Str) (l : List PAtom) (a : PAtom) : memS v (heldOf (l ++ [a])) = (memS v (heldOf l) || (!a.neg && memS v (varsOf a))) := by
 rw [heldOf_snoc]
 cases a.neg
 ·simp [memS_append]
 ·simp
def boundIn (held : List Str) (vs : List Str) : Bool := vs.all fun v => memS v held
set_option maxRecDepth 100000 in
set_option maxHeartbeats 0 in
theorem boundRef {S T : Nat → Prop} (x : PAtom) (tv : Value) (l : List PAtom) (lv : Value) (w : World) (h : RdTerms S w tv x.terms) (hl : RdAtoms T w lv l)
 (n1 : x.terms.length ≤ 1048576) (n2 : ∀ t ∈ x.terms,t.name.size ≤ 1048576) (m0 : l.length ≤ 1048576) (m1 : ∀ a ∈ l,a.terms.length ≤ 1048576) (m2 : ∀ a ∈ l,∀ t ∈ a.terms,t.name.size ≤ 1048576) :
 Calls Tryz.prog 90 #[.agg #[.bool x.neg,.string x.name,tv],lv] w fun e w' => e = .returned (.bool (boundIn (heldOf l) (varsOf x))) ∧ Below w.heap.size w w' := by
 obtain ⟨a,c,rfl,-,-,-⟩ := id h.form
 obtain ⟨la,lc,rfl,-,-,-⟩ := id hl.form
 have H := ζ h
 have HL := ζ hl
 have M1 := ζ m1
 have M2 := ζ m2
 obtain ⟨W0,hW0⟩ : ∃ W0,w.alloc (.cells #[.bool x.neg,.string x.name,.slice a x.terms.length c] 78) = W0 := ⟨_,rfl⟩
 have HB0 := ζ (show Below w.heap.size w W0 from by rw [← hW0];exact (ζb _ _).alloc (ζn _) _)
 have HA0 := ζ (show Blk W0 w.heap.size 78 #[.bool x.neg,.string x.name,.slice a x.terms.length c] from by rw [← hW0];exact Blk.new w _ _)
 have c0 := HA0.out.cell 0
 have c1 := HA0.out.cell 1
 have c2 := HA0.out.cell 2
 simp only [ζc] at c0 c1 c2
 have KV := ζ (varsRef x _ W0 (h.up HB0.out) n1 n2)
 have hvl : (varsOf x).length ≤ 1048576 := by have := varsF_length x.terms [];simp at this;show (varsF [] x.terms).length ≤ _;omega
 clear h hl n2 m1 m2
 generalize varsOf x = vs at *
 go_enter Tryz.func90,Tryz.ntmps90
 go_wp2_with (go_at_call 106;refine (KV.out).mono ?_;rintro e w2 ⟨⟨v2,rfl,hv2⟩,hb2⟩;have HBF := ζ (HB0.out.trans (hb2.mono HB0.out.size));have HV := ζ ((hv2.read ζS).more (S' := fun _ => True) ζS (fun _ _ _ => trivial));obtain ⟨va,vc,rfl,-,-,-⟩ := id (hv2.read ζS).form;clear hb2 hv2)
 clear KV HB0 HA0 c0 c1 c2
 have HE0 := ζ (show (∀ v ∈ vs.take 0,memS v (heldOf l) = true) from by simp)
 go_loopw [15] (fun i wr => ∃ k : Nat,k ≤ vs.length ∧ i = .int .i64 k ∧ Hid (∀ v ∈ vs.take k,memS v (heldOf l) = true) ∧ Hid (Below w.heap.size w wr) ∧ Hid (RdStrs (fun _ => True) wr (.slice va vs.length vc) vs)) (fun i _ => vs.length - (intOf i).toNat)
 case atStart => exact ⟨0,Nat.zero_le _,rfl,HE0,HBF,HV⟩
 case round =>
  clear HE0 HBF HV
  obtain ⟨k,hk,rfl,HE,HB,HV⟩ := hrel
  by_cases hlt : k < vs.length
  ·obtain ⟨v,hv⟩ : ∃ v,vs[k]? = some v := ⟨_,ζe hlt⟩
   obtain ⟨b1,o1,rfl,-,-,d0⟩ := RdStrs.at HV.out hv
   have HVV := ζ hv
   clear hv
   have HM0 := ζ (show memS v (heldOf (l.take 0)) = false from rfl)
   go_wp2
   clear d0
   go_loopw [21,7] (fun i b wr => ∃ (j : Nat) (q : Bool),j ≤ l.length ∧ i = .int .i64 j ∧ b = .bool q ∧ Hid (memS v (heldOf (l.take j)) = q) ∧ Hid (Below w.heap.size w wr) ∧ Hid (RdStrs (fun _ => True) wr (.slice (some ⟨b1,o1,none⟩) vs.length vc) vs)) (fun i _ _ => l.length - (intOf i).toNat)
   case atStart => exact ⟨0,false,Nat.zero_le _,rfl,rfl,HM0,HB,HV⟩
   case round =>
    clear HM0 HB HV
    obtain ⟨j,q,hj,rfl,rfl,HM,HB,HV⟩ := hrel
    by_cases hlj : j < l.length
    ·obtain ⟨y,hy⟩ : ∃ y,l[j]? = some y := ⟨_,ζe hlj⟩
     have hym := ζm hy
     obtain ⟨b4,o4,yv,rfl,-,hb4,e0,e1,e2,hyv⟩ := RdAtoms.at (HL.out.up HB.out) hy
     obtain ⟨ya,yc,rfl,-,-,-⟩ := id hyv.form
     have HMS := ζ (show memS v (heldOf (l.take (j + 1))) = (q || (!y.neg && memS v (varsOf y))) by rw [List.take_add_one,hy];show memS v (heldOf (l.take j ++ [y])) = _;rw [memS_held,HM.out])
     obtain ⟨W1,hW1⟩ : ∃ W1,wr.alloc (.cells #[.bool y.neg,.string y.name,.slice ya y.terms.length yc] 78) = W1 := ⟨_,rfl⟩
     have HBA := ζ (show Below wr.heap.size wr W1 from by rw [← hW1];exact (ζb _ _).alloc (ζn _) _)
     have HA1 := ζ (show Blk W1 wr.heap.size 78 #[.bool y.neg,.string y.name,.slice ya y.terms.length yc] from by rw [← hW1];exact Blk.new wr _ _)
     have HB1 := ζ (HB.out.trans (HBA.out.mono HB.out.size))
     have HV1 := ζ (HV.out.agree ζS (Below.agree HBA.out))
     have a0 := HA1.out.cell 0
     have a1 := HA1.out.cell 1
     have a2 := HA1.out.cell 2
     simp only [ζc] at a0 a1 a2
     have KV := ζ (varsRef y _ W1 (hyv.up HBA.out) (M1.out y hym) (M2.out y hym))
     have hul : (varsOf y).length ≤ 1048576 := by have := varsF_length y.terms [];have := M1.out y hym;simp at *;show (varsF [] y.terms).length ≤ _;omega
     clear hy hym hyv HM
     generalize varsOf y = us at *
     go_wp2_with (go_at_call 106;refine (KV.out).mono ?_;rintro e w3 ⟨⟨v3,rfl,hv3⟩,hb3⟩;have HB3 := ζ (HB1.out.trans (hb3.mono HB1.out.size));have HA3 := ζ (HA1.out.below hb3 HA1.out.lt);have HV3 := ζ (HV1.out.agree ζS (Below.agree hb3));have HU := ζ ((hv3.read ζS).more (S' := fun _ => True) ζS (fun _ _ _ => trivial));obtain ⟨ua,uc,rfl,-,-,-⟩ := id (hv3.read ζS).form;clear hb3 hv3)
     clear KV HBA HA1 HB1 HV1 a0 a1 a2
     have HM0 := ζ (show (q || (!y.neg && memS v (us.take 0))) = q from by simp [memS])
     generalize HNB : wr.heap.size = nb at *
     clear HNB
     go_loopw [28,7] (fun i b wr => ∃ (m : Nat) (r : Bool),m ≤ us.length ∧ i = .int .i64 m ∧ b = .bool r ∧ Hid ((q || (!y.neg && memS v (us.take m))) = r) ∧ Hid (Below w.heap.size w wr) ∧ Hid (RdStrs (fun _ => True) wr (.slice (some ⟨b1,o1,none⟩) vs.length vc) vs) ∧ Hid (RdStrs (fun _ => True) wr (.slice ua us.length uc) us) ∧ Hid (Blk wr nb 78 #[.bool y.neg,.string y.name,.slice ya y.terms.length yc])) (fun i _ _ => us.length - (intOf i).toNat)
     case atStart => exact ⟨0,q,Nat.zero_le _,rfl,rfl,HM0,HB3,HV3,HU,HA3⟩
     case round =>
      clear HM0 HB3 HV3 HU HA3
      obtain ⟨m,r,hm,rfl,rfl,HR,HB,HV,HU,HA⟩ := hrel
      by_cases hlm : m < us.length
      ·obtain ⟨u,hu⟩ : ∃ u,us[m]? = some u := ⟨_,ζe hlm⟩
       obtain ⟨b5,o5,rfl,-,-,g0⟩ := RdStrs.at HU.out hu
       have HRS := ζ (show (q || (!y.neg && memS v (us.take (m + 1)))) = (r || (!y.neg && decide (u = v))) by
        rw [List.take_add_one,hu]
        show (q || (!y.neg && memS v (us.take m ++ [u]))) = _
        rw [memS_snoc,← HR.out,show decide (v = u) = decide (u = v) from decide_eq_decide.2 ⟨Eq.symm,Eq.symm⟩]
        cases q <;> cases y.neg <;> simp)
       have a0 := HA.out.cell 0
       simp only [List.getElem?_toArray,List.getElem?_cons_zero] at a0
       obtain ⟨be,hbe⟩ : ∃ be,decide (u = v) = be := ⟨_,rfl⟩
       rw [hbe] at HRS
       have hbe2 : (u.toList == v.toList) = be := by rw [beq_toList];exact hbe
       clear hu HR hbe
       cases hn : y.neg <;> rw [hn] at HRS HA a0 <;> cases r <;> cases be
       all_goals
        have HRS2 := ζ (HRS.out.trans (show _ = _ from rfl))
        clear HRS
        go_wp2
        go_roundw
        case rel => exact ⟨m + 1,_,by omega,by go_num,rfl,by first | exact HRS2 | (rw [hn];exact HRS2),HB,HV,HU,by first | exact HA | (rw [hn];exact HA)⟩
        case measure => simp [intOf];omega
      ·have HR2 := ζ (show memS v (heldOf (l.take (j + 1))) = r from by
        rw [HMS.out,← HR.out,List.take_of_length_le (by omega)])
       clear HR HMS
       go_wp2
       go_roundw
       case rel => exact ⟨j + 1,r,by omega,by go_num,rfl,HR2,HB,HV⟩
       case measure => simp [intOf];omega
    ·rw [List.take_of_length_le (show l.length ≤ j by omega)] at HM
     cases q
     ·have HF := ζ (show boundIn (heldOf l) vs = false from by
       unfold boundIn
       rw [List.all_eq_false]
       exact ⟨v,ζm HVV.out,by rw [HM.out];simp⟩)
      go_wp2
      go_ret
      exact ⟨ret_bool HF.out.symm,HB.out⟩
     ·have HE2 := ζ (show ∀ z ∈ vs.take (k + 1),memS z (heldOf l) = true from fun z hz => by
       rw [List.take_add_one,HVV.out] at hz
       rcases List.mem_append.1 hz with hz | hz
       ·exact HE.out z hz
       ·obtain rfl : z = v := by simpa using hz
        exact HM.out)
      go_wp2
      go_roundw
      case rel => exact ⟨k + 1,by omega,by go_num,HE2,HB,HV⟩
      case measure => simp [intOf];omega
  ·have HF := ζ (show boundIn (heldOf l) vs = true from by
    unfold boundIn
    rw [List.all_eq_true]
    intro z hz
    exact HE.out z (by rwa [List.take_of_length_le (by omega)]))
   go_wp2
   go_ret
   exact ⟨ret_bool HF.out.symm,HB.out⟩
set_option maxRecDepth 100000 in
set_option maxHeartbeats 0 in
theorem wrongBodyRef {T : Nat → Prop} (l : List PAtom) (lv : Value) (w : World) (hl : RdAtoms T w lv l)
 (m0 : l.length ≤ 1048576) (m1 : ∀ a ∈ l,a.terms.length ≤ 1048576) (m2 : ∀ a ∈ l,∀ t ∈ a.terms,t.name.size ≤ 1048576) (m3 : ∀ a ∈ l,a.name.size ≤ 1048576) :
 Calls Tryz.prog 73 #[lv] w fun e w' => e = .returned (.int .i64 (bodyBad l)) ∧ Below w.heap.size w w' := by
 obtain ⟨la,lc,rfl,-,-,-⟩ := id hl.form
 have HL := ζ hl
 have M1 := ζ m1
 have M2 := ζ m2
 have M3 := ζ m3
 clear hl m1 m2 m3
 by_cases h5 : 5 < l.length
 ·have i5 : (5 : Int) < (l.length : Int) := by omega
  have HE := ζ (bodyBad_many h5)
  go_enter Tryz.func73,Tryz.ntmps73
  go_wp2
  go_ret
  exact ⟨ret_int HE.out.symm,ζb _ _⟩
 have i5 : ¬ (5 : Int) < (l.length : Int) := by omega
 go_enter Tryz.func73,Tryz.ntmps73
 go_wp2
 go_loopw [13] (fun i wr => ∃ k : Nat,k ≤ l.length ∧ i = .int .i64 k ∧ Hid (Below w.heap.size w wr) ∧ Hid (∀ i a,i < k → l[i]? = some a → atomBad a = 0)) (fun i _ => l.length - (intOf i).toNat)
 case atStart => exact ⟨0,Nat.zero_le _,rfl,ζ (ζb _ _),ζ (fun i a hi _ => by omega)⟩
 case round =>
  obtain ⟨k,hk,rfl,HB,HZ⟩ := hrel
  by_cases hlt : k < l.length
  ·obtain ⟨y,hy⟩ : ∃ y,l[k]? = some y := ⟨_,ζe hlt⟩
   have hym := ζm hy
   obtain ⟨b4,o4,yv,rfl,-,hb4,e0,e1,e2,hyv⟩ := RdAtoms.at (HL.out.up HB.out) hy
   obtain ⟨ya,yc,rfl,-,-,-⟩ := id hyv.form
   obtain ⟨W1,hW1⟩ : ∃ W1,wr.alloc (.cells #[.bool y.neg,.string y.name,.slice ya y.terms.length yc] 78) = W1 := ⟨_,rfl⟩
   have HBA := ζ (show Below wr.heap.size wr W1 from by rw [← hW1];exact (ζb _ _).alloc (ζn _) _)
   have HA1 := ζ (show Blk W1 wr.heap.size 78 #[.bool y.neg,.string y.name,.slice ya y.terms.length yc] from by rw [← hW1];exact Blk.new wr _ _)
   have HB1 := ζ (HB.out.trans (HBA.out.mono HB.out.size))
   have a0 := HA1.out.cell 0
   have a1 := HA1.out.cell 1
   have a2 := HA1.out.cell 2
   simp only [ζc] at a0 a1 a2
   have KA := ζ (wrongAtomRef y _ W1 (hyv.up HBA.out) (by have := M3.out y hym;omega) (by have := M1.out y hym;omega) (fun t ht => by have := M2.out y hym t ht;omega))
   have HX := ζ hy
   clear hy hym hyv
   by_cases hz : atomBad y = 0
   ·rw [hz] at KA
    have HZ1 := ζ (show ∀ i a,i < k + 1 → l[i]? = some a → atomBad a = 0 from fun i a hi ha => by
     by_cases e : i = k
     ·subst e
      rw [HX.out] at ha
      rw [← Option.some.inj ha];exact hz
     ·exact HZ.out i a (by omega) ha)
    clear hz
    go_wp2_with (go_at_call 89;refine (KA.out).mono ?_;rintro e w3 ⟨rfl,hb3⟩;have HB3 := ζ (HB1.out.trans (hb3.mono HB1.out.size));clear hb3)
    go_roundw
    case rel => exact ⟨k + 1,by omega,by go_num,HB3,HZ1⟩
    case measure => simp [intOf];omega
   ·have HE := ζ (bodyBad_at h5 HZ.out HX.out hz)
    have hne : (atomBad y != 0) = true := by simpa using hz
    clear hz
    generalize atomBad y = q at *
    go_wp2_with (go_at_call 89;refine (KA.out).mono ?_;rintro e w3 ⟨rfl,hb3⟩;have HB3 := ζ (HB1.out.trans (hb3.mono HB1.out.size));clear hb3)
    go_ret
    exact ⟨ret_int HE.out.symm,HB3.out⟩
  ·have HZL := ζ (show ∀ i a,i < l.length → l[i]? = some a → atomBad a = 0 from fun i a hi ha => HZ.out i a (by omega) ha)
   clear HZ
   go_wp2
   have HF0 := ζ (show ∀ a ∈ l.take 0,boundIn (heldOf l) (varsOf a) = true from by simp)
   go_loopw [25] (fun i wr => ∃ k : Nat,k ≤ l.length ∧ i = .int .i64 k ∧ Hid (Below w.heap.size w wr) ∧ Hid (∀ a ∈ l.take k,boundIn (heldOf l) (varsOf a) = true)) (fun i _ => l.length - (intOf i).toNat)
   case atStart => exact ⟨0,Nat.zero_le _,rfl,HB,HF0⟩
   case round =>
    clear HB HF0
    obtain ⟨k,hk,rfl,HB,HF⟩ := hrel
    by_cases hlt : k < l.length
    ·obtain ⟨y,hy⟩ : ∃ y,l[k]? = some y := ⟨_,ζe hlt⟩
     have hym := ζm hy
     obtain ⟨b4,o4,yv,rfl,-,hb4,e0,e1,e2,hyv⟩ := RdAtoms.at (HL.out.up HB.out) hy
     obtain ⟨ya,yc,rfl,-,-,-⟩ := id hyv.form
     obtain ⟨W1,hW1⟩ : ∃ W1,wr.alloc (.cells #[.bool y.neg,.string y.name,.slice ya y.terms.length yc] 78) = W1 := ⟨_,rfl⟩
     have HBA := ζ (show Below wr.heap.size wr W1 from by rw [← hW1];exact (ζb _ _).alloc (ζn _) _)
     have HA1 := ζ (show Blk W1 wr.heap.size 78 #[.bool y.neg,.string y.name,.slice ya y.terms.length yc] from by rw [← hW1];exact Blk.new wr _ _)
     have HB1 := ζ (HB.out.trans (HBA.out.mono HB.out.size))
     have a0 := HA1.out.cell 0
     have a1 := HA1.out.cell 1
     have a2 := HA1.out.cell 2
     simp only [ζc] at a0 a1 a2
     have KA := ζ (boundRef y _ l _ W1 (hyv.up HBA.out) (HL.out.up HB1.out) (M1.out y hym) (M2.out y hym) m0 M1.out M2.out)
     have HY := ζ hym
     have HX := ζ hy
     clear hy hym hyv
     obtain ⟨q,hq⟩ : ∃ q,boundIn (heldOf l) (varsOf y) = q := ⟨_,rfl⟩
     rw [hq] at KA
     cases q
     ·have HE := ζ (show bodyBad l = 9 from by
       unfold boundIn at hq
       rw [List.all_eq_false] at hq
       obtain ⟨v,hv,hb⟩ := hq
       exact bodyBad_free h5 HZL.out HY.out hv (by simpa using hb))
      clear hq
      go_wp2_with (go_at_call 90;refine (KA.out).mono ?_;rintro e w3 ⟨rfl,hb3⟩;have HB3 := ζ (HB1.out.trans (hb3.mono HB1.out.size));clear hb3)
      go_ret
      exact ⟨ret_int HE.out.symm,HB3.out⟩
     ·have HF1 := ζ (show ∀ a ∈ l.take (k + 1),boundIn (heldOf l) (varsOf a) = true from fun z hz => by
       rw [List.take_add_one,HX.out] at hz
       rcases List.mem_append.1 hz with hz | hz
       ·exact HF.out z hz
       ·obtain rfl : z = y := by simpa using hz
        exact hq)
      clear hq
      go_wp2_with (go_at_call 90;refine (KA.out).mono ?_;rintro e w3 ⟨rfl,hb3⟩;have HB3 := ζ (HB1.out.trans (hb3.mono HB1.out.size));clear hb3)
      go_roundw
      case rel => exact ⟨k + 1,by omega,by go_num,HB3,HF1⟩
      case measure => simp [intOf];omega
    ·have HE := ζ (show bodyBad l = 0 from bodyBad_ok h5 HZL.out (fun a ha v hv => by
      have := HF.out a (by rwa [List.take_of_length_le (by omega)])
      unfold boundIn at this
      exact List.all_eq_true.1 this v hv))
     go_wp2
     go_ret
     exact ⟨ret_int HE.out.symm,HB.out⟩
end
end Go.Proofs.YtdngkcieckejoaaGreat
