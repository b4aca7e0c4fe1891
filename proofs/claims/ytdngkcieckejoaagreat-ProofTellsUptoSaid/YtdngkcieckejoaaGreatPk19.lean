/-
  THE TEXTS EnvH, Ref1Word, Ref1Named, Ref1Wrong, Ref1Set, EnvG, one behind the other.
-/
import Derived.Test.YtdngkcieckejoaaGreatPk1
import Derived.Test.YtdngkcieckejoaaGreatPk2
import Derived.Test.YtdngkcieckejoaaGreatPk3
import Derived.Test.YtdngkcieckejoaaGreatPk4
import Derived.Test.YtdngkcieckejoaaGreatPk11
import Derived.Test.YtdngkcieckejoaaGreatPk13
import Derived.Test.YtdngkcieckejoaaGreatPk17
import Derived.Test.YtdngkcieckejoaaGreatPk18
import Derived.Lib.ConvBytes
namespace Go.Proofs.YtdngkcieckejoaaGreat
section
open Go.RowKit Go.Maps
def madeE (h : PAtom) (ls : List Binds) : List PFact := ofF (ls.filterMap fun b => fillP h b)
def headsE (x : PRule) (facts : List PFact) (at' : Int) (other : List PFact) : List PFact × Int := match envsP x.body facts at' other with
 | none => ([],4)
 | some ls => (madeE x.head ls,0)
theorem made_ext {h : PAtom} {ls ms : List Binds} (hm : ∀ f,(∃ b ∈ ls,fillP h b = some f) ↔ ∃ b ∈ ms,fillP h b = some f) : madeE h ls = madeE h ms :=
 rising_ext (ofF_rising _) (ofF_rising _) fun x => by unfold madeE;rw [mem_ofF,mem_ofF,List.mem_filterMap,List.mem_filterMap];exact hm x
theorem envs_with {body : List PAtom} {facts other : List PFact} {at' : Int} (hb : bodyBad body = 0) (h1 : (setF facts).1 = 0) (h2 : (setF other).1 = 0) :
 (envsP body facts at' other = none ∧ withP body facts at' other = ([],4)) ∨
 ∃ ls,envsP body facts at' other = some ls ∧ (withP body facts at' other).2 = 0 ∧ ∀ h,madeE h ls = madeE h (withP body facts at' other).1 := by
 unfold envsP withP
 rw [if_neg (by simpa using hb),if_neg (by simpa using h1),if_neg (by simpa using h2)]
 cases hg : goP (pickP facts other at') 0 [[]] body with
 | none => exact .inl ⟨rfl,rfl⟩
 | some ls =>
  refine .inr ⟨_,rfl,rfl,fun h => made_ext fun f => ?_⟩
  have hnd : ∀ l ∈ notP (pickP facts other at') 0 ls body,Nd l := fun l hl => by
   have hl2 := ((mem_notP body 0 ls l).1 hl).1
   obtain ⟨l0,h0,g1,-⟩ := goP_sound body 0 _ _ hg (fun l hl => by obtain rfl := List.mem_singleton.1 hl;exact List.Pairwise.nil) l hl2
   exact g1
  constructor
  ·rintro ⟨b,hb,hf⟩
   refine ⟨ofC cmpBind b,mem_tidyP.2 ⟨b,hb,rfl⟩,?_⟩
   rw [fillP_same (fun v => getB_ofC (hnd b hb) v)]
   exact hf
  ·rintro ⟨b,hb,hf⟩
   obtain ⟨l,hl,rfl⟩ := mem_tidyP.1 hb
   refine ⟨l,hl,?_⟩
   rw [← fillP_same (fun v => getB_ofC (hnd l hl) v)]
   exact hf
theorem headsE_eq {x : PRule} {l : List PFact} (hb : bodyBad x.body = 0) (h1 : (setF l).1 = 0) : headsE x l (-1) [] = headsP x l := by
 unfold headsE headsP allP
 rcases envs_with (at' := -1) hb h1 (by rw [setF_nil]) with ⟨e1,e2⟩ | ⟨ls,e1,e2,e3⟩
 ·rw [e1,e2,if_pos (by decide)]
 ·rw [e1,if_neg (by simpa using e2)]
  show (madeE x.head ls,(0 : Int)) = _
  rw [e3];rfl
theorem envs_short {body : List PAtom} {facts other : List PFact} {at' : Int} {ls : List Binds} (_hz : bodyBad body = 0) (h : envsP body facts at' other = some ls) : ls.length ≤ 1048576 := by
 unfold envsP at h
 cases hg : goP (pickP facts other at') 0 [[]] body with
 | none => rw [hg] at h;cases h
 | some zs =>
  rw [hg] at h
  obtain rfl := Option.some.inj h
  have h1 := goP_count body 0 _ _ hg (by simp)
  have h2 : (notP (pickP facts other at') 0 zs body).length ≤ zs.length := by rw [notP_filter];exact List.length_filter_le _ _
  show (notP (pickP facts other at') 0 zs body).length ≤ _
  omega
theorem RdFacts.hold {S : Nat → Prop} {w w' : World} {v : Value} {l : List PFact} (h : RdFacts S w v l) (hb : Below w.heap.size w w') : RdFacts S w' v l := RdSlice.agree ζF (Below.agree hb) h
attribute [local go_sem ↓] Go.wp_at_zero Go.wp_at_succ
set_option maxRecDepth 100000 in
set_option maxHeartbeats 0 in
theorem madeRef {S S3 : Nat → Prop} (x : PRule) (tv bv ev : Value) (ls : List Binds) (N : Nat) (w : World) (ht : RdTerms S w tv x.head.terms) (he : RdEnvs N S3 w ev ls)
 (n1 : x.head.terms.length ≤ 1048576) (s1 : ∀ t ∈ x.head.terms,t.name.size ≤ 1048576) (n2 : ls.length ≤ 1048576) :
 Calls Tryz.prog 91 #[.agg #[.bool x.head.neg,.string x.head.name,tv,bv],ev] w fun e w' => (∃ a c,e = .returned (.slice a (madeE x.head ls).length c) ∧ RdFacts (New w) w' (.slice a (madeE x.head ls).length c) (madeE x.head ls)) ∧ Below w.heap.size w w' := by
 obtain ⟨ta,tc,rfl,-,-,-⟩ := id ht.form
 obtain ⟨ea,ec,rfl,-,-,-⟩ := id he.form
 have HT := ζ ht
 have HE := ζ he
 have S1 := ζ s1
 obtain ⟨W0,hW0⟩ : ∃ W0 : World,w.alloc (.cells #[.bool x.head.neg,.string x.head.name,.slice ta x.head.terms.length tc,bv] 81) = W0 := ⟨_,rfl⟩
 have HB0 : Hid (Below w.heap.size w W0) := ζ (by subst hW0;exact (ζb _ _).alloc (ζn _) _)
 have HK0 := ζ (show Blk W0 w.heap.size 81 #[.bool x.head.neg,.string x.head.name,.slice ta x.head.terms.length tc,bv] by subst hW0;exact Blk.new w _ _)
 have hw0 := HK0.out.lt
 have HD0 := ζ (show RdFacts (New w) W0 (.slice none 0 0) (madeE x.head (ls.take 0)) from RdFacts.nil)
 have HR0 := ζ (ζb W0.heap.size W0)
 clear ht he s1
 go_enter Tryz.func91,Tryz.ntmps91
 go_wp2
 go_loopw [12,5] (fun i v wx => ∃ (k : Nat),k ≤ ls.length ∧ i = .int .i64 k ∧ Hid (RdFacts (New w) wx v (madeE x.head (ls.take k))) ∧ Hid (Below W0.heap.size W0 wx)) (fun i _ _ => ls.length - (intOf i).toNat)
 case atStart => exact ⟨0,Nat.zero_le _,rfl,HD0,HR0⟩
 case round =>
  clear HD0 HR0 hW0
  obtain ⟨k,hk,rfl,HD,HR⟩ := hrel
  have HW := ζ (HB0.out.trans (HR.out.mono (Below.size HB0.out)))
  by_cases hlt : k < ls.length
  ·obtain ⟨l,hl⟩ : ∃ l,ls[k]? = some l := ⟨_,ζe hlt⟩
   obtain ⟨b2,o2,mb,rfl,-,hb2,c2',-,hM2⟩ := RdEnvs.at HE.out hl
   have c2 := (ζl HW.out hb2 (o2 + k)).trans c2'
   have hk0 := HK0.out.below HR.out hw0
   have g0 := hk0.cell 0;have g1 := hk0.cell 1;have g2 := hk0.cell 2
   simp only [ζc] at g0 g1 g2
   have KF := fillRef x.head (.slice ta x.head.terms.length tc) l mb N wr (HT.out.up HW.out) (hM2.below HW.out hM2.lt) n1 S1.out
   have HFM : Hid ((ls.take (k + 1)).filterMap (fun b => fillP x.head b) = (ls.take k).filterMap (fun b => fillP x.head b) ++ (fillP x.head l).toList) := ζ (by
    rw [List.take_add_one,hl,List.filterMap_append]
    cases hg : fillP x.head l <;> simp [hg])
   have hlen : (madeE x.head (ls.take k)).length ≤ k := by
    have h1 := ofF_length ((ls.take k).filterMap fun b => fillP x.head b)
    have h2 := List.length_filterMap_le (fun b => fillP x.head b) (ls.take k)
    rw [List.length_take] at h2
    unfold madeE;omega
   have HAR := ζ (show ∀ y ∈ madeE x.head (ls.take k),y.args.length ≤ 1048576 from fun y hy => by
    unfold madeE at hy
    obtain ⟨b,-,hf⟩ := List.mem_filterMap.1 ((mem_ofF y _).1 hy)
    rw [fillP_len hf];exact n1)
   have hsz := Below.size HR.out
   have hwr := Below.size HW.out
   have HDV := ζ HD.out
   clear hl hM2 c2' hk0 HD
   cases hm : fillP x.head l with
   | none =>
    have KN := ζ (KF.mono (R' := fun e w' => e = .returned (.tuple #[.agg #[.string ⟨#[]⟩,.slice none 0 0],.bool false]) ∧ Below wr.heap.size wr w') fun e w' ⟨h1,h2⟩ => by rw [hm] at h2;exact ⟨h2,h1⟩)
    have HD2 := ζ (show madeE x.head (ls.take (k + 1)) = madeE x.head (ls.take k) by unfold madeE;rw [HFM.out,hm];simp)
    clear hm KF HFM
    go_wp2_with (go_at_call 33;refine (KN.out).mono ?_;rintro e w6 ⟨rfl,hb6⟩;have HR6 := ζ ((HR.out.trans (hb6.mono hsz)).alloc (Nat.le_trans hsz (Below.size hb6)) (.cells #[.string ⟨#[]⟩,.slice none 0 0] 27));have HD6 := ζ (RdFacts.hold HDV.out (hb6.alloc (Below.size hb6) (.cells #[.string ⟨#[]⟩,.slice none 0 0] 27)));clear hb6)
    rw [← HD2.out] at HD6
    go_roundw
    case rel => exact ⟨k + 1,by omega,by go_num,HD6,HR6⟩
    case measure => simp [intOf];omega
   | some f =>
    have KN := ζ (KF.mono (R' := fun e w' => (∃ v,e = .returned (.tuple #[.agg #[.string f.name,v],.bool true]) ∧ RdStrs (New w) w' v f.args) ∧ Below wr.heap.size wr w') fun e w' ⟨h1,h2⟩ => by
     rw [hm] at h2
     obtain ⟨v,h3,h4⟩ := h2
     exact ⟨⟨v,h3,h4.more ζS (fun q hq _ => Nat.le_trans hwr hq)⟩,h1⟩)
    have hfl : f.args.length ≤ 1048576 := by rw [fillP_len hm];exact n1
    have HD2 := ζ (show addF f (madeE x.head (ls.take k)) = madeE x.head (ls.take (k + 1)) by
     refine rising_ext (addF_rising _ _ (ofF_rising _)) (ofF_rising _) fun y => ?_
     rw [mem_addF]
     unfold madeE
     rw [mem_ofF,mem_ofF,HFM.out,hm]
     simp [or_comm])
    clear hm KF HFM
    go_wp2_with (first
     | (go_at_call 93;have hh := HD6.out;clear hh;refine (addRefU (U := New w) _ _ _ f _ HD6.out (HV6.out.agree ζS ((Agree.refl _ _).alloc _)) (by omega) (fun y hy => by have := HAR.out y hy;omega) (by omega)).mono ?_;rintro e w7 ⟨⟨v7,rfl,hr7⟩,hb7⟩;have HR7 := ζ (HR6.out.trans (hb7.mono (Below.size HR6.out)));have HD7 := ζ (show RdFacts (New w) w7 v7 _ from hr7.more ζF (fun q hq _ => hq.elim id (fun h => Nat.le_trans (Nat.le_trans hwr (Nat.le_trans hsz6.out (by simp))) h)));clear hr7 hb7)
     | (go_at_call 33;refine (KN.out).mono ?_;rintro e w6 ⟨⟨v6,rfl,hr6⟩,hb6⟩;obtain ⟨ga,gc,rfl,-,-,-⟩ := id hr6.form;have HR6 := ζ ((HR.out.trans (hb6.mono hsz)).alloc (Nat.le_trans hsz (Below.size hb6)) (.cells #[.string f.name,.slice ga f.args.length gc] 27));have HD6 := ζ (RdFacts.hold HDV.out (hb6.alloc (Below.size hb6) (.cells #[.string f.name,.slice ga f.args.length gc] 27)));have HV6 := ζ hr6;have hsz6 := ζ hb6.size;clear hr6 hb6))
    rw [HD2.out] at HD7
    go_roundw
    case rel => exact ⟨k + 1,by omega,by go_num,HD7,HR7⟩
    case measure => simp [intOf];omega
  ·have HD2 := ζ (show RdFacts (New w) wr _ (madeE x.head ls) by have := HD.out;rwa [List.take_of_length_le (by omega)] at this)
   clear HD
   obtain ⟨o,ho⟩ : ∃ o,madeE x.head ls = o := ⟨_,rfl⟩
   rw [ho] at HD2
   obtain ⟨va,vc,efm,-,-,-⟩ := id HD2.out.form
   subst efm
   go_wp2
   go_ret
   subst ho
   exact ⟨⟨va,vc,rfl,HD2.out⟩,HW.out⟩
set_option maxRecDepth 100000 in
set_option maxHeartbeats 0 in
theorem headsRef {S S2 S3 : Nat → Prop} (x : PRule) (tv bv fv : Value) (facts : List PFact) (w : World) (ht : RdTerms S w tv x.head.terms) (hb : RdAtoms S2 w bv x.body) (hf : RdFacts S3 w fv facts)
 (hs : RuleSmall x) (hz : bodyBad x.body = 0) (n4 : facts.length ≤ 1048576) (n5 : ∀ x ∈ facts,x.args.length ≤ 1048576 ∧ ∀ a ∈ x.args,a.size ≤ 1048576) :
 Calls Tryz.prog 69 #[.agg #[.bool x.head.neg,.string x.head.name,tv,bv],fv] w fun e w' => (∃ a c,e = .returned (.tuple #[.slice a (headsE x facts (-1) []).1.length c,.int .i64 (headsE x facts (-1) []).2]) ∧ RdFacts (New w) w' (.slice a (headsE x facts (-1) []).1.length c) (headsE x facts (-1) []).1) ∧ Below w.heap.size w w' := by
 obtain ⟨ta,tc,rfl,-,-,-⟩ := id ht.form
 obtain ⟨ba,bc,rfl,-,-,-⟩ := id hb.form
 obtain ⟨fa,fc,rfl,-,-,-⟩ := id hf.form
 obtain ⟨W0,hW0⟩ : ∃ W0 : World,w.alloc (.cells #[.bool x.head.neg,.string x.head.name,.slice ta x.head.terms.length tc,.slice ba x.body.length bc] 81) = W0 := ⟨_,rfl⟩
 have hb0 : Below w.heap.size w W0 := by subst hW0;exact (ζb _ _).alloc (ζn _) _
 have HB0 := ζ hb0
 have HK0 := ζ (show Blk W0 w.heap.size 81 #[.bool x.head.neg,.string x.head.name,.slice ta x.head.terms.length tc,.slice ba x.body.length bc] by subst hW0;exact Blk.new w _ _)
 have q3 : W0.cell? ⟨w.heap.size,3,none⟩ = some (.slice ba x.body.length bc) := HK0.out.cell 3
 have HT := ζ ht
 have hn1 := hs.h1
 have hn2 := hs.h2
 have N2 := ζ hn2
 have K := ζ (envsRef x.body (.slice ba x.body.length bc) facts (.slice fa facts.length fc) (-1) [] (.slice none 0 0) W0 (hb.up hb0) (hf.up hb0) (RdFacts.nil (S := fun _ => True)) hz hs.b2 n4 n5 (by simp) (by simp))
 have HL := ζ (show ∀ ls,envsP x.body facts (-1) [] = some ls → ls.length ≤ 1048576 from fun ls he => envs_short hz he)
 clear ht hb hf hs hz n4 n5 hb0 hn2
 cases hm : envsP x.body facts (-1) [] with
 | none =>
  have HE := ζ (show headsE x facts (-1) [] = ([],4) by unfold headsE;rw [hm])
  rw [hm] at K
  have KN := ζ (K.out.mono (R' := fun e w' => e = .returned (.tuple #[.slice none 0 0,.int .i64 4]) ∧ Below W0.heap.size W0 w') fun e w' ⟨h1,h2⟩ => ⟨h2,h1⟩)
  clear hm K
  go_enter Tryz.func69,Tryz.ntmps69
  go_wp2_with (go_at_call 74;refine (KN.out).mono ?_;rintro e w1 ⟨rfl,hb1⟩;have HB1 := ζ (HB0.out.trans (hb1.mono (Below.size HB0.out)));clear hb1)
  refine bodyPost_ret (v := .tuple #[.slice none 0 0,.int .i64 4]) (by simp [results,Tryz.results69,go_sem]) rfl ?_
  rw [HE.out]
  exact ⟨⟨none,0,rfl,RdFacts.nil⟩,HB1.out⟩
 | some ls =>
  have hll := HL.out ls hm
  have HE := ζ (show headsE x facts (-1) [] = (madeE x.head ls,0) by unfold headsE;rw [hm])
  rw [hm] at K
  have KN := ζ (K.out.mono (R' := fun e w' => (∃ a c,e = .returned (.tuple #[.slice a ls.length c,.int .i64 0]) ∧ RdEnvs 20 (fun _ => True) w' (.slice a ls.length c) ls) ∧ Below W0.heap.size W0 w') fun e w' ⟨h1,a,c,h2,h3⟩ => ⟨⟨a,c,h2,h3.more (REnv.steady _) (fun _ _ _ => trivial)⟩,h1⟩)
  clear hm K HL
  obtain ⟨r,hr⟩ : ∃ r,headsE x facts (-1) [] = r := ⟨_,rfl⟩
  rw [hr] at HE ⊢
  clear hr
  go_enter Tryz.func69,Tryz.ntmps69
  go_wp2_with (first
   | (go_at_call 91;have hh := HX1.out;clear hh;refine (madeRef x (.slice ta x.head.terms.length tc) (.slice ba x.body.length bc) _ ls 20 _ (HT.out.up HB1.out) HX1.out hn1 N2.out hll).mono ?_;rintro e w2 ⟨⟨a2,c2,rfl,hr2⟩,hb2⟩;have HB2 := ζ (HB1.out.trans (hb2.mono (Below.size HB1.out)));have HR2 := ζ (hr2.more ζF (S' := New w) (fun q hq _ => Nat.le_trans (Below.size HB1.out) hq));clear hb2 hr2)
   | (go_at_call 74;refine (KN.out).mono ?_;rintro e w1 ⟨⟨a1,c1,rfl,hx1⟩,hb1⟩;have HB1 := ζ (HB0.out.trans (hb1.mono (Below.size HB0.out)));have HX1 := ζ hx1;have hk1 := HK0.out.below hb1 HK0.out.lt;have g0 := hk1.cell 0;have g1 := hk1.cell 1;have g2 := hk1.cell 2;have g3 := hk1.cell 3;simp only [ζc] at g0 g1 g2 g3;clear hb1 hx1 hk1))
  refine bodyPost_ret (v := .tuple #[.slice a2 (madeE x.head ls).length c2,.int .i64 0]) (by simp [results,Tryz.results69,go_sem]) rfl ?_
  rw [HE.out]
  exact ⟨⟨a2,c2,rfl,HR2.out⟩,HB2.out⟩
theorem foldl_maxx : ∀ (r : List Int) (a b : Int),r.foldl max (max a b) = max a (r.foldl max b)
 | [],a,b => rfl
 | x :: r,a,b => by
  rw [List.foldl_cons,List.foldl_cons,show max (max a b) x = max a (max b x) by omega,foldl_maxx r]
theorem count_cons {x : Int} (hx : 0 ≤ x) (l : List Int) : countP (x :: l) = max (x + 1) (countP l) := by
 cases l with
 | nil => show x + 1 = max (x + 1) 0;omega
 | cons y r =>
  show (y :: r).foldl max x + 1 = max (x + 1) (r.foldl max y + 1)
  rw [List.foldl_cons,foldl_maxx];omega
theorem count_fold : ∀ (l : List Int) (m : Int),0 ≤ m → (∀ x ∈ l,0 ≤ x) → l.foldl (fun n k => max n (k + 1)) m = max m (countP l)
 | [],m,h,_ => by show m = max m 0;omega
 | x :: l,m,h,hx => by
  have h0 := hx x (by simp)
  rw [List.foldl_cons,count_fold l _ (by omega) (fun y hy => hx y (by simp [hy])),count_cons h0];omega
theorem count_snoc {l : List Int} {k : Nat} {x : Int} (hx : l[k]? = some x) : (l.take (k + 1)).foldl (fun n k => max n (k + 1)) 0 = max ((l.take k).foldl (fun n k => max n (k + 1)) 0) (x + 1) := by
 rw [List.take_add_one,hx,List.foldl_append];rfl
theorem count_bd (l : List Int) (hb : ∀ z ∈ l,0 ≤ z ∧ z ≤ 1048576) : ∀ k,0 ≤ (l.take k).foldl (fun n k => max n (k + 1)) 0 ∧ (l.take k).foldl (fun n k => max n (k + 1)) 0 ≤ 1048577
 | 0 => by simp
 | k + 1 => by
  have ih := count_bd l hb k
  by_cases hk : k < l.length
  ·obtain ⟨x,hx⟩ : ∃ x,l[k]? = some x := ⟨_,ζe hk⟩
   have := hb x (ζm hx)
   rw [count_snoc hx];omega
  ·rw [List.take_of_length_le (by omega)] at ih ⊢;exact ih
set_option maxRecDepth 100000 in
set_option maxHeartbeats 0 in
theorem countRef {S : Nat → Prop} (v : Value) (l : List Int) (w : World) (h : RdInts S w v l) (n1 : l.length ≤ 1048576) (n2 : ∀ z ∈ l,0 ≤ z ∧ z ≤ 1048576) :
 Calls Tryz.prog 47 #[v] w fun e w' => e = .returned (.int .i64 (countP l)) ∧ w' = w := by
 obtain ⟨a,c,rfl,-,-,-⟩ := id h.form
 have H := ζ h
 have HBD := ζ (count_bd l n2)
 have N2 := ζ n2
 have HC := ζ (show l.foldl (fun n k => max n (k + 1)) 0 = countP l by
  rw [count_fold l 0 (by omega) (fun x hx => (n2 x hx).1)]
  have : 0 ≤ countP l := by
   cases l with
   | nil => show (0 : Int) ≤ 0;omega
   | cons x r => rw [count_cons (n2 x (by simp)).1];have := (n2 x (by simp)).1;omega
  omega)
 clear h n2
 go_enter Tryz.func47,Tryz.ntmps47
 go_wp2
 go_loopw [8,3] (fun i m wx => ∃ (k : Nat) (z : Int),k ≤ l.length ∧ i = .int .i64 k ∧ m = .int .i64 z ∧ Hid ((l.take k).foldl (fun n k => max n (k + 1)) 0 = z) ∧ Hid (w = wx)) (fun i _ _ => l.length - (intOf i).toNat)
 case atStart => exact ⟨0,0,Nat.zero_le _,rfl,rfl,ζ rfl,ζ rfl⟩
 case round =>
  obtain ⟨k,z,hk,rfl,rfl,HZ,HW⟩ := hrel
  have hw := HW.out
  subst hw
  have hbd := HBD.out k
  rw [HZ.out] at hbd
  by_cases hlt : k < l.length
  ·obtain ⟨x,hx⟩ : ∃ x,l[k]? = some x := ⟨_,ζe hlt⟩
   obtain ⟨b1,o1,rfl,-,-,d0⟩ := RdInts.at H.out hx
   have hxb := N2.out x (ζm hx)
   have hwr : IntKind.i64.wrap (x + 1) = x + 1 := by rw [IntKind.wrap_i64];omega
   have HZ2 := ζ (show (l.take (k + 1)).foldl (fun n k => max n (k + 1)) 0 = max z (x + 1) by rw [count_snoc hx,HZ.out])
   have HWW := ζ (Eq.refl w)
   clear hx
   go_wp2
   go_roundw
   case rel => exact ⟨k + 1,max z (x + 1),by omega,by go_num,by first | rfl | go_num | (simp;done) | trace_state,HZ2,ζ True.intro⟩
   case measure => simp [intOf];omega
  ·have HE := ζ (show z = countP l by rw [← HZ.out,List.take_of_length_le (by omega),HC.out])
   go_wp2
   go_ret
   exact ⟨by rw [HE.out];rfl,rfl⟩
end
section
open Go.RowKit
set_option maxHeartbeats 0 in
theorem smallRef (c : UInt8) (w : World) : Calls Tryz.prog 72 #[.int .u8 c.toNat] w fun e w' => e = .returned (.bool (smallB c)) ∧ w = w' := by
 rcases byte_cases c with ⟨⟨b1,b2⟩,q1,q2,q3⟩ | ⟨⟨b1,b2⟩,q1,q2,q3⟩ | ⟨⟨b1,b2⟩,q1,q2,q3⟩ | ⟨⟨b1,b2⟩,q1,q2,q3⟩ | ⟨⟨b1,b2⟩,q1,q2,q3⟩ | ⟨⟨b1,b2⟩,q1,q2,q3⟩ | ⟨⟨b1,b2⟩,q1,q2,q3⟩ | ⟨⟨b1,b2⟩,q1,q2,q3⟩ | ⟨⟨b1,b2⟩,q1,q2,q3⟩
 all_goals
  rw [q1]
  clear q1 q2 q3
  generalize (c.toNat : Int) = n at *
  try have z1 : decide (97 ≤ n) = true := decide_eq_true (by omega)
  try have z1 : decide (97 ≤ n) = false := decide_eq_false (by omega)
  try have z2 : decide (n ≤ 122) = true := decide_eq_true (by omega)
  try have z2 : decide (n ≤ 122) = false := decide_eq_false (by omega)
  try have z3 : decide (48 ≤ n) = true := decide_eq_true (by omega)
  try have z3 : decide (48 ≤ n) = false := decide_eq_false (by omega)
  try have z4 : decide (n ≤ 57) = true := decide_eq_true (by omega)
  try have z4 : decide (n ≤ 57) = false := decide_eq_false (by omega)
  go_enter Tryz.func72,Tryz.ntmps72
  go_wp2
  go_ret
  exact ⟨rfl,rfl⟩
set_option maxHeartbeats 0 in
theorem signRef (c : UInt8) (w : World) : Calls Tryz.prog 94 #[.int .u8 c.toNat] w fun e w' => e = .returned (.bool (signB c)) ∧ w = w' := by
 have K := ζ (fun W => smallRef c W)
 rcases byte_cases c with ⟨⟨b1,b2⟩,q1,q2,q3⟩ | ⟨⟨b1,b2⟩,q1,q2,q3⟩ | ⟨⟨b1,b2⟩,q1,q2,q3⟩ | ⟨⟨b1,b2⟩,q1,q2,q3⟩ | ⟨⟨b1,b2⟩,q1,q2,q3⟩ | ⟨⟨b1,b2⟩,q1,q2,q3⟩ | ⟨⟨b1,b2⟩,q1,q2,q3⟩ | ⟨⟨b1,b2⟩,q1,q2,q3⟩ | ⟨⟨b1,b2⟩,q1,q2,q3⟩
 all_goals
  rw [q3]
  rw [q1] at K
  clear q1 q2 q3
  generalize (c.toNat : Int) = n at *
  try have z1 : decide (65 ≤ n) = true := decide_eq_true (by omega)
  try have z1 : decide (65 ≤ n) = false := decide_eq_false (by omega)
  try have z2 : decide (n ≤ 90) = true := decide_eq_true (by omega)
  try have z2 : decide (n ≤ 90) = false := decide_eq_false (by omega)
  try have z3 : (n == 95) = true := beq_iff_eq.2 (by omega)
  try have z3 : (n == 95) = false := beq_eq_false_iff_ne.2 (by omega)
  try have z4 : decide (n = 95) = true := decide_eq_true (by omega)
  try have z4 : decide (n = 95) = false := decide_eq_false (by omega)
  go_enter Tryz.func94,Tryz.ntmps94
  go_wp2_with (go_at_call 72;refine (K.out _).mono ?_;rintro e w' ⟨rfl,rfl⟩)
  go_ret
  exact ⟨rfl,rfl⟩
theorem bytesWorld_below (w : World) (e : TypeId) (s : ByteArray) : Below w.heap.size w (Lib.bytesWorld w e s) :=
 ⟨rfl,rfl,rfl,by rw [Lib.bytesWorld_size];omega,fun k hk => Lib.bytesWorld_at_old w e s k hk⟩
theorem bytes_getD (s : Str) {k : Nat} (h : k < s.size) : s.data.toList.getD k 0 = s[k] := by
 have e : s.data.toList.length = s.size := by rw [Array.length_toList];rfl
 rw [List.getD_eq_getElem?_getD,ζe (by omega)]
 rfl
set_option maxRecDepth 100000 in
set_option maxHeartbeats 0 in
theorem wordRef (s : Str) (w : World) (hsz : s.size ≤ 1099511627776) : Calls Tryz.prog 71 #[.string s] w fun e w' => e = .returned (.bool (s.data.toList.all signB && (decide (0 < s.size) && decide (s.size ≤ 12)))) ∧ Below w.heap.size w w' := by
 have hc := Lib.run_convert_string_bytes (P := Tryz.prog) w 9 146 5 s Tryz.underlying9 Tryz.underlying146 Tryz.underlying5
 have HB := ζ (bytesWorld_below w 5 s)
 have HC := ζ (fun j (hj : j < s.size) => Lib.bytesWorld_cell w 5 s j hj)
 generalize Lib.bytesWorld w 5 s = w0 at *
 generalize grownCap w s.size 0 5 = C at *
 obtain ⟨r,hr⟩ : ∃ r,s.data.toList.all signB = r := ⟨_,rfl⟩
 rw [hr]
 have HQ := ζ hr
 clear hr
 go_enter Tryz.func71,Tryz.ntmps71
 go_wp2
 clear hc
 go_loop [8,4] (fun i _ => ∃ k : Nat,k ≤ s.size ∧ i = .int .i64 k ∧ Hid (r = (s.data.toList.drop k).all signB)) (fun i _ => s.size - (intOf i).toNat)
 case atStart => exact ⟨0,Nat.zero_le _,rfl,ζ HQ.out.symm⟩
 case round =>
  obtain ⟨k,hk,rfl,HR⟩ := hrel
  by_cases hlt : k < s.size
  ·have hcell := HC.out k hlt
   rw [bytes_getD s hlt] at hcell
   have HD := ζ (show (s.data.toList.drop k).all signB = (signB s[k] && (s.data.toList.drop (k + 1)).all signB) by rw [drop_bytes s k hlt];rfl)
   have K := ζ (fun W => signRef s[k] W)
   generalize s[k] = c at *
   cases hs : signB c
   ·rw [hs] at K HD
    have HE := ζ (HR.out.trans HD.out)
    clear hs
    go_wp2_with (go_at_call 94;refine (K.out _).mono ?_;rintro e w' ⟨rfl,rfl⟩)
    go_ret
    exact ⟨ret_bool (by rw [HE.out];rfl),HB.out⟩
   ·rw [hs] at K HD
    have HE := ζ (HR.out.trans HD.out)
    clear hs
    go_wp2_with (go_at_call 94;refine (K.out _).mono ?_;rintro e w' ⟨rfl,rfl⟩)
    go_round
    case rel => exact ⟨k + 1,by omega,by go_num,ζ (by rw [HE.out];simp)⟩
    case measure => simp [intOf];omega
  ·have HE := ζ (show r = true by rw [HR.out,drop_bytes_end s k (by omega)];rfl)
   by_cases h0 : 0 < s.size
   ·by_cases h12 : s.size ≤ 12
    ·have i1 : (0 : Int) < (s.size : Int) := by omega
     have i2 : (s.size : Int) ≤ 12 := by omega
     go_wp2
     go_ret
     exact ⟨ret_bool (by first | (rw [HE.out];done) | (rw [HE.out];simp [h0,h12];done) | (simp [h0,h12];done)),HB.out⟩
    ·have i1 : (0 : Int) < (s.size : Int) := by omega
     have i2 : ¬ (s.size : Int) ≤ 12 := by omega
     go_wp2
     go_ret
     exact ⟨ret_bool (by first | (rw [HE.out];done) | (rw [HE.out];simp [h0,h12];done) | (simp;done)),HB.out⟩
   ·have i1 : ¬ (0 : Int) < (s.size : Int) := by omega
    go_wp2
    go_ret
    exact ⟨ret_bool (by first | (rw [HE.out];done) | (rw [HE.out];simp [h0];done) | (simp;done)),HB.out⟩
theorem named_word (s : Str) : named s = (s.data.toList.all signB && (decide (0 < s.size) && decide (s.size ≤ 12)) && (match s.data.toList with | [] => false | c :: _ => smallB c)) := by
 have e : s.data.toList.length = s.size := by rw [Array.length_toList];rfl
 unfold named nameL
 rw [← e]
 cases s.data.toList with
 | nil => simp
 | cons c cs =>
  rw [Bool.eq_iff_iff]
  simp only [List.all_cons,List.length_cons,Bool.and_eq_true,decide_eq_true_eq,signB,Bool.or_eq_true]
  constructor
  ·rintro ⟨h1,h2,h3⟩
   exact ⟨⟨⟨.inl (.inl h2),h3⟩,by omega,h1⟩,h2⟩
  ·rintro ⟨⟨⟨-,h3⟩,-,h1⟩,h2⟩
   exact ⟨h1,h2,h3⟩
end
section
open Go.RowKit
set_option maxHeartbeats 0 in
theorem namedRef (s : Str) (w : World) (hsz : s.size ≤ 1099511627776) : Calls Tryz.prog 49 #[.string s] w fun e w' => e = .returned (.bool (named s)) ∧ Below w.heap.size w w' := by
 have K := ζ (wordRef s w hsz)
 have HN := ζ (named_word s)
 have e : s.data.toList.length = s.size := by rw [Array.length_toList];rfl
 obtain ⟨r,hr⟩ : ∃ r,(s.data.toList.all signB && (decide (0 < s.size) && decide (s.size ≤ 12))) = r := ⟨_,rfl⟩
 rw [hr] at K HN
 cases hr1 : r
 ·subst hr1
  clear hr
  go_enter Tryz.func49,Tryz.ntmps49
  go_wp2_with (go_at_call 71;refine (K.out).mono ?_;rintro e w' ⟨rfl,hb⟩)
  go_ret
  exact ⟨ret_bool (by rw [HN.out];rfl),hb⟩
 ·subst hr1
  have h0 : 0 < s.size := by
   simp only [Bool.and_eq_true,decide_eq_true_eq] at hr
   exact hr.2.1
  have HL := ζ (show named s = smallB s[0] by
   rw [HN.out]
   have := drop_bytes s 0 h0
   rw [List.drop_zero] at this
   rw [this];rfl)
  have KS := ζ (fun W => smallRef s[0] W)
  clear hr e
  go_enter Tryz.func49,Tryz.ntmps49
  go_wp2_with (first
   | (go_at_call 71;refine (K.out).mono ?_;rintro e w' ⟨rfl,hb⟩;have HB := ζ hb;clear hb)
   | (go_at_call 72;refine (KS.out _).mono ?_;rintro e w'' ⟨rfl,rfl⟩))
  go_ret
  exact ⟨ret_bool HL.out.symm,HB.out⟩
end
section
open Go.RowKit
set_option maxHeartbeats 0 in
theorem wrongRef {S : Nat → Prop} (f : PFact) (av : Value) (w : World) (h : RdStrs S w av f.args) (n0 : f.name.size ≤ 1099511627776) (n1 : f.args.length ≤ 1073741824) (n2 : ∀ x ∈ f.args,x.size ≤ 1099511627776) :
 Calls Tryz.prog 25 #[.agg #[.string f.name,av]] w fun e w' => e = .returned (.int .i64 (wrongF f)) ∧ Below w.heap.size w w' := by
 obtain ⟨a,c,rfl,-,-,-⟩ := id h.form
 have H := ζ (fun W (ha : Agree (fun _ => True) w W) i x (hx : f.args[i]? = some x) => RdStrs.at ((h.more ζS (S' := fun _ => True) (fun _ _ _ => trivial)).agree ζS ha) hx)
 have N2 := ζ n2
 have K0 := ζ (namedRef f.name (w.alloc (.cells #[.string f.name,.slice a f.args.length c] 27)) n0)
 have KN := ζ (fun (x : Str) (hx : x.size ≤ 1099511627776) W => namedRef x W hx)
 have c0 : (w.alloc (.cells #[.string f.name,.slice a f.args.length c] 27)).cell? ⟨w.heap.size,1,none⟩ = some (.slice a f.args.length c) := by simp
 have hsz : w.heap.size < (w.alloc (.cells #[.string f.name,.slice a f.args.length c] 27)).heap.size := by simp
 have HB0 := ζ ((ζb w.heap.size w).alloc (ζn _) (.cells #[.string f.name,.slice a f.args.length c] 27))
 have HW : Hid (wrongF f = if !named f.name then 7 else if 4 < f.args.length then 5 else if f.args.all named then 0 else 7) := ζ (show wrongF f = if !named f.name then 7 else if 4 < f.args.length then 5 else if f.args.all named then 0 else 7 from rfl)
 clear h n2
 obtain ⟨q,hq⟩ : ∃ q,named f.name = q := ⟨_,rfl⟩
 rw [hq] at K0 HW
 clear hq
 cases q
 ·go_enter Tryz.func25,Tryz.ntmps25
  go_wp2_with (go_at_call 49;refine (K0.out).mono ?_;rintro e w1 ⟨rfl,hb1⟩)
  go_ret
  exact ⟨ret_int (by rw [HW.out];rfl),HB0.out.trans (hb1.mono (by simp))⟩
 ·by_cases h4 : 4 < f.args.length
  ·have HE := ζ (show wrongF f = 5 by rw [HW.out];simp [h4])
   have i1 : (4 : Int) < (f.args.length : Int) := by omega
   go_enter Tryz.func25,Tryz.ntmps25
   go_wp2_with (go_at_call 49;refine (K0.out).mono ?_;rintro e w1 ⟨rfl,hb1⟩;have d0 := (ζl hb1 hsz 1).trans c0)
   go_ret
   exact ⟨ret_int HE.out.symm,HB0.out.trans (hb1.mono (by simp))⟩
  ·have HE := ζ (show wrongF f = if f.args.all named then 0 else 7 by rw [HW.out];simp [h4])
   have i1 : ¬ (4 : Int) < (f.args.length : Int) := by omega
   go_enter Tryz.func25,Tryz.ntmps25
   go_wp2_with (go_at_call 49;refine (K0.out).mono ?_;rintro e w1 ⟨rfl,hb1⟩;have d0 := (ζl hb1 hsz 1).trans c0;have HB1 := ζ (HB0.out.trans (hb1.mono (by simp)));clear hb1)
   go_loopw [16,4] (fun i _ wr => ∃ k : Nat,k ≤ f.args.length ∧ i = .int .i64 k ∧ Hid (f.args.all named = (f.args.drop k).all named) ∧ Hid (Below w.heap.size w wr)) (fun i _ _ => f.args.length - (intOf i).toNat)
   case atStart => exact ⟨0,Nat.zero_le _,rfl,ζ rfl,HB1⟩
   case round =>
    obtain ⟨k,hk,rfl,HR,HB⟩ := hrel
    by_cases hlt : k < f.args.length
    ·obtain ⟨x,hx⟩ : ∃ x,f.args[k]? = some x := ⟨_,ζe hlt⟩
     obtain ⟨b1,o1,rfl,-,-,hc1⟩ := H.out wr (Below.agree HB.out) k x hx
     have KX := ζ (KN.out x (N2.out x (ζm hx)) wr)
     have HD := ζ (show (f.args.drop k).all named = (named x && (f.args.drop (k + 1)).all named) by rw [drop_cons hx];rfl)
     clear hx
     cases hs : named x
     ·rw [hs] at KX HD
      have HF := ζ (show wrongF f = 7 by rw [HE.out,HR.out,HD.out];rfl)
      clear hs
      go_wp2_with (go_at_call 49;refine (KX.out).mono ?_;rintro e w2 ⟨rfl,hb2⟩)
      go_ret
      exact ⟨ret_int HF.out.symm,HB.out.trans (hb2.mono HB.out.size)⟩
     ·rw [hs] at KX HD
      have HF := ζ (HR.out.trans HD.out)
      clear hs
      go_wp2_with (go_at_call 49;refine (KX.out).mono ?_;rintro e w2 ⟨rfl,hb2⟩;have HB2 := ζ (HB.out.trans (hb2.mono HB.out.size));clear hb2)
      go_roundw
      case rel => exact ⟨k + 1,by omega,by go_num,ζ (by rw [HF.out];simp),HB2.out⟩
      case measure => simp [intOf];omega
    ·have HF := ζ (show wrongF f = 0 by rw [HE.out,HR.out,drop_end (by omega : f.args.length ≤ k)];rfl)
     go_wp2
     go_ret
     exact ⟨ret_int HF.out.symm,HB.out⟩
end
section
open Go.RowKit
attribute [local go_sem ↓] Go.wp_at_zero Go.wp_at_succ
set_option maxRecDepth 100000 in
set_option maxHeartbeats 0 in
theorem setRef {S : Nat → Prop} (v : Value) (l : List PFact) (w : World) (h : RdFacts S w v l) (n1 : l.length ≤ 1073741824) (n2 : ∀ x ∈ l,x.args.length ≤ 1073741824) (n4 : ∀ x ∈ l,x.name.size ≤ 1099511627776 ∧ ∀ a ∈ x.args,a.size ≤ 1099511627776) :
 Calls Tryz.prog 68 #[v] w fun e w' => e = .returned (.agg #[.int .i64 (setF l).1,.int .i64 (setF l).2]) ∧ Below w.heap.size w w' := by
 obtain ⟨a,c,rfl,-,-,-⟩ := id h.form
 have H := ζ h
 have N2 := ζ n2
 have N4 := ζ n4
 clear h n2 n4
 by_cases hmany : 200 < l.length
 ·have hs := setF_many hmany
  obtain ⟨q,hq⟩ : ∃ q,setF l = q := ⟨_,rfl⟩
  rw [hq] at hs ⊢
  subst hs
  have i1 : (200 : Int) < (l.length : Int) := by omega
  go_enter Tryz.func68,Tryz.ntmps68
  go_wp2
  refine bodyPost_ret (v := .agg #[.int .i64 5,.int .i64 0]) (by simp [results,Tryz.results68,go_sem]) rfl ⟨rfl,?_⟩
  exact (ζb _ _).alloc (ζn _) _
 ·have i0 : ¬ ((200 : Int) < (l.length : Int)) := by omega
  go_enter Tryz.func68,Tryz.ntmps68
  go_wp2
  have c0 : (w.alloc (.cells #[.int .i64 0,.int .i64 0] 49)).cell? ⟨w.heap.size,0,none⟩ = some (.int .i64 0) := by simp
  have c1 : (w.alloc (.cells #[.int .i64 0,.int .i64 0] 49)).cell? ⟨w.heap.size,1,none⟩ = some (.int .i64 0) := by simp
  have f0 : (w.alloc (.cells #[.int .i64 0,.int .i64 0] 49)).frozen? ⟨w.heap.size,0,none⟩ = false := by simp
  have f1 : (w.alloc (.cells #[.int .i64 0,.int .i64 0] 49)).frozen? ⟨w.heap.size,1,none⟩ = false := by simp
  have hz0 : w.heap.size < (w.alloc (.cells #[.int .i64 0,.int .i64 0] 49)).heap.size := by simp
  have HB := ζ ((ζb w.heap.size w).alloc (ζn _) (.cells #[.int .i64 0,.int .i64 0] 49))
  generalize w.alloc (.cells #[.int .i64 0,.int .i64 0] 49) = w0 at *
  go_loopw [12] (fun i wr => ∃ k : Nat,k ≤ l.length ∧ i = .int .i64 k ∧ Hid (Below w.heap.size w wr) ∧ w.heap.size < wr.heap.size ∧ Hid (∀ j,j < k → badAt l j = 0) ∧ wr.cell? ⟨w.heap.size,0,none⟩ = some (.int .i64 0) ∧ wr.cell? ⟨w.heap.size,1,none⟩ = some (.int .i64 0) ∧ wr.frozen? ⟨w.heap.size,0,none⟩ = false ∧ wr.frozen? ⟨w.heap.size,1,none⟩ = false) (fun i _ => l.length - (intOf i).toNat)
  case atStart => exact ⟨0,Nat.zero_le _,rfl,HB,hz0,fun j hj => by omega,c0,c1,f0,f1⟩
  case round =>
   obtain ⟨k,hk,rfl,HB,hsz,HZ,c0,c1,f0,f1⟩ := hrel
   by_cases hlt : k < l.length
   ·obtain ⟨x,hx⟩ : ∃ x,l[k]? = some x := ⟨_,ζe hlt⟩
    have hn2 : x.args.length ≤ 1073741824 := N2.out x (ζm hx)
    obtain ⟨b1,o1,av,rfl,-,hb1,hc1,hc2,hav⟩ := RdFacts.at ((H.out.more ζF (S' := fun _ => True) (fun _ _ _ => trivial)).agree ζF (Below.agree HB.out)) hx
    obtain ⟨aa,ac,rfl,-,-,-⟩ := id hav.form
    have HA := ζ hav
    have HX := ζ hx
    have hn4 := N4.out x (ζm hx)
    have hW := wrongRef x _ (wr.alloc (.cells #[.string x.name,.slice aa x.args.length ac] 27)) (hav.agree ζS ((Agree.refl _ _).alloc _)) hn4.1 (by omega) hn4.2
    clear hav hx hn4
    by_cases hz : wrongF x = 0
    ·rw [hz] at hW
     have HW := ζ hW
     have HZX := ζ hz
     clear hW hz
     rcases k with _ | j
     ·have z0 : ((0 : Nat) : Int) = 0 := rfl
      have HBZ := ζ (badAt_zero HX.out HZX.out)
      have HZ1 := ζ (show ∀ j,j < 1 → badAt l j = 0 from fun j hj => (show j = 0 by omega) ▸ HBZ.out)
      simp only [Nat.zero_mul,Nat.add_zero] at hc1 hc2
      rw [z0]
      go_wp2_with (go_at_call 25;refine (HW.out).mono ?_;rintro e w1 ⟨rfl,hf1⟩;have d0 := (past_cell hf1 hsz 0).trans c0;have d1 := (past_cell hf1 hsz 1).trans c1;have g0 := (past_frozen hf1 hsz 0).trans f0;have g1 := (past_frozen hf1 hsz 1).trans f1;have HB1 := ζ ((HB.out.alloc (Nat.le_of_lt hsz) _).trans (hf1.mono (by simp;omega)));have hs1 : w.heap.size < w1.heap.size := (by have := hf1.size;simp at this;omega);clear hf1)
      go_quiet (fail)
      go_wp2
      go_roundw
      case rel => exact ⟨1,by omega,by go_num,ζ ⟨HB1.out.os,HB1.out.tape,HB1.out.output,HB1.out.size,HB1.out.block⟩,hs1,HZ1,d0,d1,g0,g1⟩
      case measure => simp [intOf];omega
     ·obtain ⟨y,hy⟩ : ∃ y,l[j]? = some y := ⟨_,ζe (by omega)⟩
      have hn2y : y.args.length ≤ 1073741824 := N2.out y (ζm hy)
      obtain ⟨b2,o2,yv,e2,-,-,hd1,hd2,hyv⟩ := RdFacts.at ((H.out.more ζF (S' := fun _ => True) (fun _ _ _ => trivial)).agree ζF (Below.agree HB.out)) hy
      injection e2 with e2;injection e2 with e2 e2' _
      subst e2 e2'
      obtain ⟨ya,yc,rfl,-,-,-⟩ := id hyv.form
      have HY := ζ hyv
      have HBS := ζ (badAt_succ HX.out hy HZX.out)
      have i1 : (0 : Int) ≤ (j : Int) := by omega
      have i2 : (j : Int) + 1 < (l.length : Int) := by omega
      have i3 : (j : Int) < (l.length : Int) := by omega
      have i4 : (0 : Int) ≤ (j : Int) + 1 := by omega
      have i5 : IntKind.i64.wrap (j : Int) = j := by rw [IntKind.wrap_i64];omega
      have i6 : (0 : Int) < (j : Int) + 1 := by omega
      have e1 : ((j + 1 : Nat) : Int) = (j : Int) + 1 := by omega
      have K := ζ (fun W (ha : Agree (fun _ => True) wr W) => lessRef y x (.slice ya y.args.length yc) (.slice aa x.args.length ac) W (HY.out.agree ζS ha) (HA.out.agree ζS ha) hn2y)
      clear hyv hy
      rw [e1]
      rcases (show ltF y x = true ∨ ltF y x = false by cases ltF y x <;> simp) with hlt2 | hlt2
      ·have HL := ζ (show cmpFact y x < 0 from of_decide_eq_true hlt2)
       rw [hlt2] at K
       clear hlt2
       go_wp2_with (go_at_call 25;refine (HW.out).mono ?_;rintro e w1 ⟨rfl,hf1⟩;have d0 := (past_cell hf1 hsz 0).trans c0;have d1 := (past_cell hf1 hsz 1).trans c1;have g0 := (past_frozen hf1 hsz 0).trans f0;have g1 := (past_frozen hf1 hsz 1).trans f1;have HB1 := ζ ((HB.out.alloc (Nat.le_of_lt hsz) _).trans (hf1.mono (by simp;omega)));have hs1 : w.heap.size < w1.heap.size := (by have := hf1.size;simp at this;omega);have hx0 : w1.cell? ⟨wr.heap.size,0,none⟩ = some (.string x.name) := (ζl hf1 (by simp) 0).trans (by simp);have hx1 : w1.cell? ⟨wr.heap.size,1,none⟩ = some (.slice aa x.args.length ac) := (ζl hf1 (by simp) 1).trans (by simp);have hsx : wr.heap.size < w1.heap.size := (by have := hf1.size;simp at this;omega);have hb2 : b1 < w1.heap.size := (by omega);have hy0 := (past_cell hf1 hb1 (o1 + j * 2)).trans hd1;have hy1 := (past_cell hf1 hb1 (o1 + j * 2 + 1)).trans hd2;have HAG := ζ (show Agree (fun _ => True) wr w1 from ((Agree.refl _ _).alloc _).trans (Below.agree hf1));clear hf1)
       go_region_held3 (fun w' => w'.cell? ⟨b1,o1 + j * 2,none⟩ = some (.string y.name) ∧ w'.cell? ⟨b1,o1 + j * 2 + 1,none⟩ = some (.slice ya y.args.length yc) ∧
        w'.cell? ⟨wr.heap.size,0,none⟩ = some (.string x.name) ∧ w'.cell? ⟨wr.heap.size,1,none⟩ = some (.slice aa x.args.length ac))
        (first | (refine ⟨?_,?_,?_,?_⟩ <;> (first | (rw [hk2 _ hb2];assumption) | (rw [hk2 _ hsx];assumption))) | go_keep)
        (first
         | (go_at_call 52;refine (K.out _ HAG.out.drew).mono ?_;rintro e w2 ⟨rfl,hf2⟩;have hk2 : ∀ c,c < w1.heap.size → ∀ off,w2.cell? ⟨c,off,none⟩ = w1.cell? ⟨c,off,none⟩ := fun c hc off => ζl (w := w1.drew) hf2.below hc off))
       have HB2 := ζ (HB1.out.drew.trans (hf2.below.mono HB1.out.size))
       have m0 := (hk2 _ hs1 0).trans d0
       have m1 := (hk2 _ hs1 1).trans d1
       have m2 := (hf2.below.frozen (p := ⟨w.heap.size,0,none⟩) hs1).trans g0
       have m3 := (hf2.below.frozen (p := ⟨w.heap.size,1,none⟩) hs1).trans g1
       have hs2 : w.heap.size < w2.heap.size := Nat.lt_of_lt_of_le hs1 hf2.below.size
       clear hf2 hk2 hx0 hx1 hy0 hy1
       go_wp2
       go_roundw
       case rel =>
        refine ⟨j + 1 + 1,by omega,by go_num,HB2.out,hs2,fun i hi => ?_,m0,m1,m2,m3⟩
        by_cases e : i = j + 1
        ·subst e;rw [HBS.out,if_pos HL.out]
        ·exact HZ.out i (by omega)
       case measure => simp [intOf];omega
      ·have HL := ζ (show ¬ cmpFact y x < 0 from of_decide_eq_false hlt2)
       rw [hlt2] at K
       have hs := setF_at hmany hlt HZ.out (by rw [HBS.out,if_neg HL.out];decide)
       rw [HBS.out,if_neg HL.out] at hs
       have HS := ζ hs
       clear hlt2 hs
       go_wp2_with (go_at_call 25;refine (HW.out).mono ?_;rintro e w1 ⟨rfl,hf1⟩;have d0 := (past_cell hf1 hsz 0).trans c0;have d1 := (past_cell hf1 hsz 1).trans c1;have g0 := (past_frozen hf1 hsz 0).trans f0;have g1 := (past_frozen hf1 hsz 1).trans f1;have HB1 := ζ ((HB.out.alloc (Nat.le_of_lt hsz) _).trans (hf1.mono (by simp;omega)));have hs1 : w.heap.size < w1.heap.size := (by have := hf1.size;simp at this;omega);have hx0 : w1.cell? ⟨wr.heap.size,0,none⟩ = some (.string x.name) := (ζl hf1 (by simp) 0).trans (by simp);have hx1 : w1.cell? ⟨wr.heap.size,1,none⟩ = some (.slice aa x.args.length ac) := (ζl hf1 (by simp) 1).trans (by simp);have hsx : wr.heap.size < w1.heap.size := (by have := hf1.size;simp at this;omega);have hb2 : b1 < w1.heap.size := (by omega);have hy0 := (past_cell hf1 hb1 (o1 + j * 2)).trans hd1;have hy1 := (past_cell hf1 hb1 (o1 + j * 2 + 1)).trans hd2;have HAG := ζ (show Agree (fun _ => True) wr w1 from ((Agree.refl _ _).alloc _).trans (Below.agree hf1));clear hf1)
       go_region_held3 (fun w' => w'.cell? ⟨b1,o1 + j * 2,none⟩ = some (.string y.name) ∧ w'.cell? ⟨b1,o1 + j * 2 + 1,none⟩ = some (.slice ya y.args.length yc) ∧
        w'.cell? ⟨wr.heap.size,0,none⟩ = some (.string x.name) ∧ w'.cell? ⟨wr.heap.size,1,none⟩ = some (.slice aa x.args.length ac))
        (first | (refine ⟨?_,?_,?_,?_⟩ <;> (first | (rw [hk2 _ hb2];assumption) | (rw [hk2 _ hsx];assumption))) | go_keep)
        (first
         | (go_at_call 52;refine (K.out _ HAG.out.drew).mono ?_;rintro e w2 ⟨rfl,hf2⟩;have hk2 : ∀ c,c < w1.heap.size → ∀ off,w2.cell? ⟨c,off,none⟩ = w1.cell? ⟨c,off,none⟩ := fun c hc off => ζl (w := w1.drew) hf2.below hc off))
       have HB2 := ζ (HB1.out.drew.trans (hf2.below.mono HB1.out.size))
       have m0 := (hk2 _ hs1 0).trans d0
       have m1 := (hk2 _ hs1 1).trans d1
       have m2 := (hf2.below.frozen (p := ⟨w.heap.size,0,none⟩) hs1).trans g0
       have m3 := (hf2.below.frozen (p := ⟨w.heap.size,1,none⟩) hs1).trans g1
       clear hf2 hk2 hx0 hx1 hy0 hy1
       go_wp2
       refine bodyPost_ret (v := .agg #[.int .i64 2,.int .i64 ((j + 1 : Nat) : Int)]) (by simp [results,Tryz.results68,go_sem,m0,m1]) rfl ⟨by rw [HS.out],?_⟩
       exact (HB2.out.setCell (ζn _) _).setCell (ζn _) _
    ·have hne : (wrongF x != 0) = true := by simpa using hz
     have hs := setF_at hmany hlt HZ.out (by rw [badAt_wrong HX.out hz];exact hz)
     rw [badAt_wrong HX.out hz] at hs
     have HS := ζ hs
     have HW := ζ hW
     clear hs hW
     generalize wrongF x = q at *
     go_wp2_with (go_at_call 25;refine (HW.out).mono ?_;rintro e w1 ⟨rfl,hf1⟩;have d0 := (past_cell hf1 hsz 0).trans c0;have d1 := (past_cell hf1 hsz 1).trans c1;have g0 := (past_frozen hf1 hsz 0).trans f0;have g1 := (past_frozen hf1 hsz 1).trans f1;have HB1 := ζ ((HB.out.alloc (Nat.le_of_lt hsz) _).trans (hf1.mono (by simp;omega)));clear hf1)
     refine bodyPost_ret (v := .agg #[.int .i64 q,.int .i64 k]) (by simp [results,Tryz.results68,go_sem,d0,d1]) rfl ⟨by rw [HS.out],?_⟩
     exact (HB1.out.setCell (ζn _) _).setCell (ζn _) _
   ·have HS := ζ (setF_ok hmany (fun j hj => HZ.out j (by omega)))
    go_wp2
    refine bodyPost_ret (v := .agg #[.int .i64 0,.int .i64 0]) (by simp [results,Tryz.results68,go_sem,c0,c1]) rfl ⟨by rw [HS.out],?_⟩
    exact (HB.out.setCell (ζn _) _).setCell (ζn _) _
end
section
open Go.RowKit Go.Maps
def FactsSmall (l : List PFact) : Prop := ∀ x ∈ l,x.args.length ≤ 1048576 ∧ x.name.size ≤ 1048576 ∧ ∀ a ∈ x.args,a.size ≤ 1048576
def fitsF (f : PFact) (a : PAtom) : Prop := a.name = f.name → a.terms.length = f.args.length
theorem misfit_no {p : List PRule} (h : Arity p) {f : PFact} (hf : ∀ a ∈ atomsOf p,fitsF f a) : misfit p f = false := by
 rw [Bool.eq_false_iff]
 intro hm
 obtain ⟨a,ha,e,hne⟩ := (misfit_iff h f).1 hm
 exact hne (hf a ha e)
theorem misfit_yes {p : List PRule} (h : Arity p) {f : PFact} {a : PAtom} (ha : a ∈ atomsOf p) (e : a.name = f.name) (hne : a.terms.length ≠ f.args.length) : misfit p f = true := (misfit_iff h f).2 ⟨a,ha,e,hne⟩
attribute [local go_sem ↓] Go.wp_at_zero Go.wp_at_succ
set_option maxRecDepth 100000 in
set_option maxHeartbeats 0 in
theorem factsRef {S S2 : Nat → Prop} (p : List PRule) (v : Value) (fv : Value) (l : List PFact) (w : World) (h : RdRules S w v p) (hf : RdFacts S2 w fv l) (hA : Arity p) (n1 : p.length ≤ 1048576) (n2 : ∀ r ∈ p,RuleSmall r)
 (n4 : l.length ≤ 1048576) (n5 : FactsSmall l) :
 Calls Tryz.prog 46 #[v,fv] w fun e w' => e = .returned (.agg #[.int .i64 (factsBad p l).1,.int .i64 (factsBad p l).2]) ∧ Below w.heap.size w w' := by
 obtain ⟨a,c,rfl,-,-,-⟩ := id h.form
 obtain ⟨fa,fc,rfl,-,-,-⟩ := id hf.form
 have H := ζ h
 have HFA := ζ hf
 have N2 := ζ n2
 have KS := ζ (fun W (hW : Below w.heap.size w W) => setRef (.slice fa l.length fc) l W (hf.up hW) (by omega) (fun x hx => by have := (n5 x hx).1;omega) (fun x hx => ⟨by have := (n5 x hx).2.1;omega,fun a ha => by have := (n5 x hx).2.2 a ha;omega⟩))
 have HAR := ζ hA
 clear h hf n2 n5 hA
 have HB0 := ζ ((ζb w.heap.size w).alloc (ζn _) (.cells #[.int .i64 0,.int .i64 0] 49))
 have HK0 := ζ (Blk.new w 49 #[.int .i64 0,.int .i64 0])
 by_cases hz : (setF l).1 = 0
 case neg =>
  have g1 : ((setF l).1 != 0) = true := by simpa using hz
  have HE := ζ (factsBad_set' (p := p) hz)
  clear hz
  generalize setF l = q at *
  obtain ⟨q1,q2⟩ := q
  dsimp only at *
  go_enter Tryz.func46,Tryz.ntmps46
  go_wp2_with (go_at_call 68;refine (KS.out _ HB0.out).mono ?_;rintro e w1 ⟨rfl,hb1⟩;have HB1 := ζ ((HB0.out.trans (hb1.mono (Below.size HB0.out))).alloc (Nat.le_trans (Below.size HB0.out) hb1.size) (.cells #[.int .i64 q1,.int .i64 q2] 49));have HK1 := ζ ((HK0.out.below hb1 HK0.out.lt).alloc (.cells #[.int .i64 q1,.int .i64 q2] 49));have c0 := HK1.out.cell 0;have c1 := HK1.out.cell 1;have f0 := HK1.out.frozen 0;have f1 := HK1.out.frozen 1;simp at c0 c1;clear hb1)
  refine bodyPost_ret (v := .agg #[.int .i64 q1,.int .i64 q2]) (by simp [results,Tryz.results46,go_sem,c0,c1]) rfl ⟨by rw [HE.out],?_⟩
  exact (HB1.out.setCell (ζn _) _).setCell (ζn _) _
 have hsf : setF l = (0,0) := setF_of (setF_set hz).1 (setF_set hz).2.1 (setF_set hz).2.2
 have HZ := ζ hz
 rw [hsf] at KS
 clear hz hsf
 go_enter Tryz.func46,Tryz.ntmps46
 go_wp2_with (go_at_call 68;refine (KS.out _ HB0.out).mono ?_;rintro e w1 ⟨rfl,hb1⟩;have HB1 := ζ ((HB0.out.trans (hb1.mono (Below.size HB0.out))).alloc (Nat.le_trans (Below.size HB0.out) hb1.size) (.cells #[.int .i64 0,.int .i64 0] 49));have HK1 := ζ ((HK0.out.below hb1 HK0.out.lt).alloc (.cells #[.int .i64 0,.int .i64 0] 49));clear hb1)
 generalize w1.alloc (.cells #[.int .i64 0,.int .i64 0] 49) = W1 at *
 have hk1 := HK1.out.lt
 have HR1 := ζ (ζb W1.heap.size W1)
 clear HB0 HK0 KS
 go_loopw [20] (fun i wx => ∃ (j : Nat),j ≤ l.length ∧ i = .int .i64 j ∧ Hid (Below W1.heap.size W1 wx) ∧ Hid (∀ g ∈ l.take j,misfit p g = false)) (fun i _ => l.length - (intOf i).toNat)
 case atStart => exact ⟨0,Nat.zero_le _,rfl,HR1,ζ (by simp)⟩
 case round =>
  clear HR1
  obtain ⟨j,hj,rfl,HR,HG⟩ := hrel
  have HW := ζ (HB1.out.trans (HR.out.mono (Below.size HB1.out)))
  have hs1 := Below.size HR.out
  by_cases hlj : j < l.length
  ·obtain ⟨f,hy⟩ : ∃ y,l[j]? = some y := ⟨_,ζe hlj⟩
   obtain ⟨b4,o4,av,rfl,-,hb4,e0,e1,hav⟩ := RdFacts.at (HFA.out.up HW.out) hy
   obtain ⟨xa,xc,rfl,-,-,-⟩ := id hav.form
   have HA1 := ζ (show misfit p f = false → ∀ g ∈ l.take (j + 1),misfit p g = false from fun h g hg => by
    rw [List.take_add_one,hy] at hg
    rcases List.mem_append.1 hg with hg | hg
    ·exact HG.out g hg
    ·obtain rfl : g = f := by simpa using hg
     exact h)
   have HH := ζ (fun h => factsBad_hit (p := p) HZ.out hy h HG.out)
   obtain ⟨W2,hW2⟩ : ∃ W2 : World,wr.alloc (.cells #[.string f.name,.slice xa f.args.length xc] 27) = W2 := ⟨_,rfl⟩
   have HK2 : Hid (Blk W2 wr.heap.size 27 #[.string f.name,.slice xa f.args.length xc]) := ζ (by subst hW2;exact Blk.new wr _ _)
   have HR2 : Hid (Below W1.heap.size W1 W2) := ζ (by subst hW2;exact HR.out.alloc hs1 _)
   have hk2 := HK2.out.lt
   have HS2 := ζ (ζb W2.heap.size W2)
   have HF0 : Hid (∀ a ∈ atomsOf (p.take 0),fitsF f a) := ζ (by simp [atomsOf])
   have hs2 := Below.size HR2.out
   clear hy hav HG HR HW
   go_wp2
   clear e0 e1 hW2
   go_loopw [27] (fun i wx => ∃ (k : Nat),k ≤ p.length ∧ i = .int .i64 k ∧ Hid (Below W2.heap.size W2 wx) ∧ Hid (∀ a ∈ atomsOf (p.take k),fitsF f a)) (fun i _ => p.length - (intOf i).toNat)
   case atStart => exact ⟨0,Nat.zero_le _,rfl,HS2,HF0⟩
   case round =>
    clear HS2 HF0
    obtain ⟨k,hk,rfl,HS,HF⟩ := hrel
    have HR3 := ζ (HR2.out.trans (HS.out.mono hs2))
    have HW3 := ζ (HB1.out.trans (HR3.out.mono (Below.size HB1.out)))
    by_cases hlt : k < p.length
    ·obtain ⟨x,hx⟩ : ∃ x,p[k]? = some x := ⟨_,ζe hlt⟩
     have hmem := ζm hx
     obtain ⟨b1,o1,tv,bv,rfl,-,hb1,d0,d1,d2,d3,htv,hbv⟩ := RdRules.at H.out hx
     obtain ⟨ta,tc,rfl,-,-,-⟩ := id htv.form
     obtain ⟨ba,bc,rfl,-,-,-⟩ := id hbv.form
     have HRA := ζ (show RuleAt S w b1 (o1 + k * 4) x (.slice ta x.head.terms.length tc) (.slice ba x.body.length bc) from ⟨hb1,d0,d1,d2,d3,htv,hbv⟩)
     have HSR := ζ (N2.out x hmem)
     have hbl := HSR.out.b0
     have HSN := ζ (atomsOf_snoc hx)
     have HXM := ζ (fun a (ha : a ∈ x.head :: x.body) => (show a ∈ atomsOf p from List.mem_flatMap.2 ⟨x,hmem,ha⟩))
     clear d0 d1 d2 d3
     obtain ⟨-,d0,d1,d2,d3,-,-⟩ := HRA.out.up HW3.out
     have HQ1 := ζ (HW3.out.alloc (Below.size HW3.out) (.cells #[.bool x.head.neg,.string x.head.name,.slice ta x.head.terms.length tc,.slice ba x.body.length bc] 81))
     have hwb := Below.size HW3.out
     have hs3 := Below.size HS.out
     clear hx hmem htv hbv
     go_wp2_with (at_builtin;have HO6 := ζ (Owned.lit (k := 3) (R := RAtom) (B := wr.heap.size + 1) (e := 78) (S := fun q => q < w.heap.size) (w := wr.alloc (.cells #[.bool x.head.neg,.string x.head.name,.slice ta x.head.terms.length tc,.slice ba x.body.length bc] 81)) (l := [x.head]) [[.bool x.head.neg,.string x.head.name,.slice ta x.head.terms.length tc]] #[.bool x.head.neg,.string x.head.name,.slice ta x.head.terms.length tc] rfl (by simp) (by simp) rfl (by simp) (by simp [maxLen]) (fun i c z hc hz => by
      rcases i with _ | i
      ·simp at hc hz
       subst hc hz
       exact ⟨_,rfl,((HRA.out.t.more (S' := fun q => q < w.heap.size ∧ some q ≠ some (wr.heap.size + 1)) RTerm.steady (fun q _ hq => ⟨hq,fun e => by injection e with e;omega⟩)).agree RTerm.steady ⟨Below.size (HQ1.out.alloc (Below.size HQ1.out) _),fun q hq _ => (HQ1.out.alloc (Below.size HQ1.out) _).block q hq.1⟩) |> fun hh => by simpa using hh⟩
      ·simp at hc));have hq9 : (wr.alloc (.cells #[.bool x.head.neg,.string x.head.name,.slice ta x.head.terms.length tc,.slice ba x.body.length bc] 81)).heap.size = wr.heap.size + 1 := (by simp);rw [hq9] at HO6;clear hq9;refine wpList_append_many (B := wr.heap.size + 1) (e := 78) (S := fun q => q < w.heap.size) (by rfl) _ _ 79 (by rfl) RAtom.steady RAtom.one rowAtoms _ [x.head] (by rfl) HO6.out (.slice ba x.body.length bc) x.body (by rfl) ((HRA.out.b.more (S' := fun q => q < w.heap.size) RAtom.steady (fun q _ hq => hq)).agree RAtom.steady ⟨Below.size (HQ1.out.alloc (Below.size HQ1.out) _),fun q hq _ => (HQ1.out.alloc (Below.size HQ1.out) _).block q hq⟩) (fun cs x' hr => RAtom.steady.more (fun q hq _ => ⟨hq,fun e => by have := (HO6.out.row_lt e.symm).1;omega⟩) hr) (by simp;omega) (by simp) ?_;intro v7 w7 hown7 hg7 hat7;have HO7 := ζ (show Owned 3 RAtom (wr.heap.size + 1) 78 (fun q => q < w.heap.size) w7 v7 (x.head :: x.body) from hown7);have HS7 := ζ (((HS.out.alloc hs3 (.cells #[.bool x.head.neg,.string x.head.name,.slice ta x.head.terms.length tc,.slice ba x.body.length bc] 81)).alloc (by simp;omega) _).grown hg7 (by simp;omega) (fun q hq => by have := (HO6.out.row_lt hq).1;omega));obtain ⟨a7,c7,rfl,-,-,-⟩ := id (HO7.out.read RAtom.steady).form;clear hown7 hg7 hat7)
     have HRL := ζ (HO7.out.read RAtom.steady)
     have HSM := ζ (show ∀ y ∈ x.head :: x.body,y.terms.length ≤ 1048576 from fun y hy => by
      rcases List.mem_cons.1 hy with rfl | hy
      ·exact HSR.out.h1
      ·exact HSR.out.b1 y hy)
     obtain ⟨l2,hl2⟩ : ∃ l2,x.head :: x.body = l2 := ⟨_,rfl⟩
     have hl6 : l2.length ≤ 1048577 := by rw [← hl2];simp only [List.length_cons];omega
     have hlc : x.body.length + 1 = l2.length := by rw [← hl2];rfl
     have hlen2 : (x.head :: x.body).length = l2.length := by rw [hl2]
     rw [hl2] at HRL HSM HXM HSN
     clear HO7 d0 d1 d2 d3 hl2
     have HT7 := ζ (ζb w7.heap.size w7)
     have HFF : Hid (∀ a ∈ l2.take 0,fitsF f a) := ζ (by simp)
     try simp only [List.length_cons] at *
     have hlcI : (x.body.length : Int) + 1 = (l2.length : Int) := by omega
     try rw [hlcI]
     try rw [hlc] at *
     have hs7 := Below.size HS7.out
     clear hlcI
     go_loopw [38] (fun i wx => ∃ (q : Nat),q ≤ l2.length ∧ i = .int .i64 q ∧ Hid (Below w7.heap.size w7 wx) ∧ Hid (∀ a ∈ l2.take q,fitsF f a)) (fun i _ => l2.length - (intOf i).toNat)
     case atStart => exact ⟨0,Nat.zero_le _,rfl,HT7,HFF⟩
     case round =>
      clear HT7 HFF hlc hlen2
      obtain ⟨q,hq,rfl,HT,HFQ⟩ := hrel
      have HS8 := ζ (HS7.out.trans (HT.out.mono hs7))
      have hst := Below.size HT.out
      by_cases hlq : q < l2.length
      ·obtain ⟨y,hy⟩ : ∃ y,l2[q]? = some y := ⟨_,ζe hlq⟩
       have hym := ζm hy
       obtain ⟨b5,o5,yv,rfl,-,hb5,e0,e1,e2,hyv⟩ := RdAtoms.at (RdAtoms.up HRL.out HT.out) hy
       obtain ⟨ya,yc,rfl,-,-,-⟩ := id hyv.form
       have hyl := HSM.out y hym
       have hk8 := HK2.out.below HS8.out hk2
       have k0 := hk8.cell 0;have k1 := hk8.cell 1
       simp only [ζc] at k0 k1
       have hlt8 := hk8.lt
       have HT8 := ζ (HT.out.alloc hst (.cells #[.bool y.neg,.string y.name,.slice ya y.terms.length yc] 78))
       have HF8 := ζ (show fitsF f y → ∀ a ∈ l2.take (q + 1),fitsF f a from fun h a ha => by
        rw [List.take_add_one,hy] at ha
        rcases List.mem_append.1 ha with ha | ha
        ·exact HFQ.out a ha
        ·obtain rfl : a = y := by simpa using ha
         exact h)
       have HMY := ζ (fun e hne => HH.out (misfit_yes HAR.out (HXM.out y hym) e hne))
       clear hy hyv hym hk8 HFQ
       by_cases hn : y.name = f.name
       case neg =>
        have gz : (y.name.toList == f.name.toList) = false := by rw [beq_toList];exact decide_eq_false hn
        have HF9 := ζ (HF8.out fun e => absurd e hn)
        clear hn HF8 HMY
        go_wp2
        go_roundw
        case rel => exact ⟨q + 1,by omega,by go_num,HT8,HF9⟩
        case measure => simp [intOf];omega
       have gz : (y.name.toList == f.name.toList) = true := by rw [hn];simp
       have HN := ζ hn
       clear hn
       by_cases hq2 : y.terms.length = f.args.length
       ·have i1 : (y.terms.length : Int) = (f.args.length : Int) := by omega
        have HF9 := ζ (HF8.out fun _ => hq2)
        clear hq2 HF8 HMY
        go_wp2
        go_roundw
        case rel => exact ⟨q + 1,by omega,by go_num,HT8,HF9⟩
        case measure => simp [intOf];omega
       ·have i1 : ¬ (y.terms.length : Int) = (f.args.length : Int) := by omega
        have HE := ζ (HMY.out HN.out hq2)
        have HZ8 := ζ (HR2.out.trans ((HS7.out.trans (HT8.out.mono hs7)).mono hs2))
        have hkz := HK1.out.below HZ8.out hk1
        have HZW := ζ (HB1.out.trans (HZ8.out.mono (Below.size HB1.out)))
        have c0 := hkz.cell 0;have c1 := hkz.cell 1;have f0 := hkz.frozen 0;have f1 := hkz.frozen 1
        simp at c0 c1
        clear hq2 HF8 HMY hkz
        go_wp2
        refine bodyPost_ret (v := .agg #[.int .i64 8,.int .i64 j]) (by simp [results,Tryz.results46,go_sem,c0,c1]) rfl ⟨by rw [HE.out],?_⟩
        exact (HZW.out.setCell (ζn _) _).setCell (ζn _) _
      ·have HF9 := ζ (show ∀ a ∈ atomsOf (p.take (k + 1)),fitsF f a by
        rw [HSN.out]
        intro a ha
        rcases List.mem_append.1 ha with ha | ha
        ·exact HF.out a ha
        ·exact HFQ.out a (by rw [List.take_of_length_le (by omega)];exact ha))
       clear HFQ HF HRL
       go_wp2
       go_roundw
       case rel => exact ⟨k + 1,by omega,by go_num,HS8,HF9⟩
       case measure => simp [intOf];omega
    ·have HG2 := ζ (HA1.out (misfit_no HAR.out (by have := HF.out;rwa [List.take_of_length_le (by omega)] at this)))
     clear HF HA1 HH
     go_wp2
     go_roundw
     case rel => exact ⟨j + 1,by omega,by go_num,HR3,HG2⟩
     case measure => simp [intOf];omega
  ·have HE := ζ (factsBad_none (p := p) HZ.out (by have := HG.out;rwa [List.take_of_length_le (by omega)] at this))
   have hkz := HK1.out.below HR.out hk1
   have c0 := hkz.cell 0;have c1 := hkz.cell 1;have f0 := hkz.frozen 0;have f1 := hkz.frozen 1
   simp at c0 c1
   clear hkz HG
   go_wp2
   refine bodyPost_ret (v := .agg #[.int .i64 0,.int .i64 0]) (by simp [results,Tryz.results46,go_sem,c0,c1]) rfl ⟨by rw [HE.out],?_⟩
   exact (HW.out.setCell (ζn _) _).setCell (ζn _) _
end
end Go.Proofs.YtdngkcieckejoaaGreat
