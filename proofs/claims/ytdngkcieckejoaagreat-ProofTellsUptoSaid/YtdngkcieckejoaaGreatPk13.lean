/-
  THE TEXTS NaiveW3, SynW5, Known, Alive5, Entry, RulesIn, NaiveK, ProofChk, ProofF, one behind the other.
-/
import Derived.Test.YtdngkcieckejoaaGreatPk2
import Derived.Test.YtdngkcieckejoaaGreatPk4
import Derived.Test.YtdngkcieckejoaaGreatPk5
import Derived.Test.YtdngkcieckejoaaGreatPk9
import Derived.Test.YtdngkcieckejoaaGreatPk10
import Derived.Test.YtdngkcieckejoaaGreatPk11
import Derived.Test.YtdngkcieckejoaaGreatPk12
import Derived.Defers
import Derived.Recover
import Derived.Test.YtdngkcieckejoaaGreatRows
import Derived.ProofKit
import Derived.OpenShut
import Derived.JoinedCond
import Derived.Carry
import Derived.Deep.Strs
import Derived.Deep.Slices
import Derived.Test.YtdngkcieckejoaaGreatChecked
namespace Go.Proofs.YtdngkcieckejoaaGreat
section
open Go.RowKit Go.Maps
theorem RdInts.up {S : Nat → Prop} {w w' : World} {v : Value} {l : List Int} (h : RdInts S w v l) (hb : Below w.heap.size w w') : RdInts (fun _ => True) w' v l := (h.more RInt.steady (fun _ _ _ => trivial)).agree RInt.steady (Below.agree hb)
theorem heads_len (r : PRule) (l : List PFact) : (headsP r l).1.length ≤ 20000 := by
 unfold headsP
 split
 ·exact Nat.zero_le _
 ·refine Nat.le_trans (ofF_length _) (Nat.le_trans (List.length_filterMap_le _ _) (all_short r.body l).1)
theorem heads_args {r : PRule} {l : List PFact} {x : PFact} (hx : x ∈ (headsP r l).1) : x.args.length = r.head.terms.length := by
 unfold headsP at hx
 split at hx
 ·simp at hx
 ·obtain ⟨b,-,hb⟩ := List.mem_filterMap.1 ((mem_ofF _ _).1 hx)
  exact fill_args hb
theorem once_skip {n s : Int} {l out : List PFact} {r : PRule} {ps : List (PRule × Int)} (h : s ≠ n) : onceP n l ((r,s) :: ps) out = onceP n l ps out := by conv => lhs;unfold onceP;rw [if_pos h]
theorem once_err {n s : Int} {l out : List PFact} {r : PRule} {ps : List (PRule × Int)} (h : s = n) (he : (headsP r l).2 ≠ 0) : onceP n l ((r,s) :: ps) out = ([],(headsP r l).2) := by
 unfold onceP;rw [if_neg (by simpa using h),if_pos he]
theorem once_many {n s : Int} {l out : List PFact} {r : PRule} {ps : List (PRule × Int)} (h : s = n) (he : (headsP r l).2 = 0) (hm : 200 < (joinF out (headsP r l).1).length) : onceP n l ((r,s) :: ps) out = ([],5) := by
 unfold onceP;rw [if_neg (by simpa using h),if_neg (by simpa using he),if_pos hm]
theorem once_next {n s : Int} {l out : List PFact} {r : PRule} {ps : List (PRule × Int)} (h : s = n) (he : (headsP r l).2 = 0) (hm : ¬ 200 < (joinF out (headsP r l).1).length) : onceP n l ((r,s) :: ps) out = onceP n l ps (joinF out (headsP r l).1) := by
 conv => lhs;unfold onceP
 rw [if_neg (by simpa using h),if_neg (by simpa using he),if_neg hm]
theorem zip_at {α β : Type} {a : List α} {b : List β} {k : Nat} {x : α} {y : β} (h1 : a[k]? = some x) (h2 : b[k]? = some y) : (a.zip b)[k]? = some (x,y) := by
 rw [List.getElem?_zip_eq_some];exact ⟨h1,h2⟩
set_option maxRecDepth 100000 in
set_option maxHeartbeats 0 in
theorem onceCalls {S S2 S3 : Nat → Prop} (p : List PRule) (v sv fv : Value) (st : List Int) (n : Int) (l : List PFact) (w : World) (h : RdRules S w v p) (hst : RdInts S2 w sv st) (hf : RdFacts S3 w fv l) (hlen : st.length = p.length)
 (n1 : p.length ≤ 1048576) (n2 : ∀ r ∈ p,RuleSmall r) (n4 : l.length ≤ 1048576) (n5 : ∀ x ∈ l,x.args.length ≤ 1048576) :
 Calls Tryz.prog 20 #[v,sv,.int .i64 n,fv] w (FactsPost (onceP n l (p.zip st) l) w) := by
 obtain ⟨a,c,rfl,-,-,-⟩ := id h.form
 obtain ⟨sa,sc,rfl,-,-,-⟩ := id hst.form
 obtain ⟨fa,fc,rfl,-,-,-⟩ := id hf.form
 have KO := ζ (ownCalls (.slice fa l.length fc) l w hf (by omega) (fun x hx => by have := n5 x hx;omega))
 have H := ζ h
 have HST := ζ hst
 have HFA := ζ hf
 have N2 := ζ n2
 have N5 := ζ n5
 clear h hst hf n2 n5
 go_enter Tryz.func20,Tryz.ntmps20
 go_wp2_with (go_at_call 18;refine (KO.out).mono ?_;rintro e w1 ⟨⟨v1,rfl,ho1⟩,hb1⟩;have HO1 := ζ ho1;have HB1 := ζ hb1;clear ho1 hb1)
 clear KO
 go_loopw [19,10] (fun i v wr => ∃ (k : Nat) (o : List PFact),k ≤ p.length ∧ i = .int .i64 k ∧ o.length ≤ 1048576 ∧ Hid (∀ x ∈ o,x.args.length ≤ 1048576) ∧ Hid (Owned 2 RFact w.heap.size 27 (New w) wr v o) ∧ Hid (Below w.heap.size w wr) ∧ Hid (onceP n l (p.zip st) l = onceP n l ((p.zip st).drop k) o)) (fun i _ _ => p.length - (intOf i).toNat)
 case atStart => exact ⟨0,l,Nat.zero_le _,rfl,n4,N5,HO1,HB1,ζ rfl⟩
 case round =>
  clear HO1 HB1
  obtain ⟨k,o,hk,rfl,hol,HOA,HO,HB,HE⟩ := hrel
  obtain ⟨va,vc,efm,-,-,-⟩ := (HO.out.read ζF).form
  subst efm
  by_cases hlt : k < p.length
  ·obtain ⟨x,hx⟩ : ∃ x,p[k]? = some x := ⟨_,ζe hlt⟩
   obtain ⟨s,hsx⟩ : ∃ s,st[k]? = some s := ⟨_,ζe (by omega)⟩
   have hmem := ζm hx
   obtain ⟨b1,o1,tv,bv,rfl,-,hb1,d0,d1,d2,d3,htv,hbv⟩ := RdRules.at H.out hx
   obtain ⟨ta,tc,rfl,-,-,-⟩ := id htv.form
   obtain ⟨ba,bc,rfl,-,-,-⟩ := id hbv.form
   have HRA := ζ (show RuleAt S w b1 (o1 + k * 4) x (.slice ta x.head.terms.length tc) (.slice ba x.body.length bc) from ⟨hb1,d0,d1,d2,d3,htv,hbv⟩)
   obtain ⟨b2,o2,rfl,-,hb2,e0⟩ := RdInts.at HST.out hsx
   have f0 := (ζl HB.out hb2 _).trans e0
   have HS := ζ (N2.out x hmem)
   clear d0 d1 d2 d3 e0
   obtain ⟨-,d0,d1,d2,d3,-,-⟩ := HRA.out.up HB.out
   have hsz := HB.out.size
   have hbl2 : b2 < wr.heap.size := Nat.lt_of_lt_of_le hb2 hsz
   have hbx : Below wr.heap.size wr (wr.alloc (.cells #[.bool x.head.neg,.string x.head.name,.slice ta x.head.terms.length tc,.slice ba x.body.length bc] 81)) := (ζb _ _).alloc (ζn _) _
   have HB1 := ζ (HB.out.trans (hbx.mono hsz))
   have HO1 := ζ (HO.out.below ζF hbx)
   have HE1 := ζ (show onceP n l (p.zip st) l = onceP n l ((x,s) :: (p.zip st).drop (k + 1)) o by rw [HE.out,at_drop (zip_at hx hsx)])
   have i3 : (k : Int) < (st.length : Int) := by omega
   clear hx hsx hmem htv hbv hbx HE
   by_cases hs : s = n
   case neg =>
    have g1 : (s != n) = true := by simpa using hs
    have HE2 := ζ (HE1.out.trans (once_skip hs))
    clear hs HE1
    go_wp2
    go_roundw
    case rel => exact ⟨k + 1,o,by omega,by go_num,hol,HOA,HO1,HB1,HE2⟩
    case measure => simp [intOf];omega
   have g1 : (s != n) = false := by simpa using hs
   have KH := ζ (headsCalls x (.slice ta x.head.terms.length tc) (.slice ba x.body.length bc) (.slice fa l.length fc) l (wr.alloc (.cells #[.bool x.head.neg,.string x.head.name,.slice ta x.head.terms.length tc,.slice ba x.body.length bc] 81)) (HRA.out.up HB1.out).t (HRA.out.up HB1.out).b (HFA.out.up HB1.out) HS.out n4 N5.out)
   have HHL := ζ (heads_len x l)
   have HHA := ζ (show ∀ y ∈ (headsP x l).1,y.args.length ≤ 1048576 from fun y hy => by rw [heads_args hy];exact HS.out.h1)
   have H1 := ζ (fun (he : (headsP x l).2 ≠ 0) => HE1.out.trans (once_err hs he))
   have H2 := ζ (fun (he : (headsP x l).2 = 0) hm => HE1.out.trans (once_many hs he hm))
   have H3 := ζ (fun (he : (headsP x l).2 = 0) hm => HE1.out.trans (once_next hs he hm))
   clear hs HE1
   generalize headsP x l = r at *
   obtain ⟨hl,q⟩ := r
   dsimp only at *
   by_cases hq : q = 0
   case neg =>
    have g2 : (q != 0) = true := by simpa using hq
    have HE2 := ζ (H1.out hq)
    clear hq H1 H2 H3
    go_wp2_with (go_at_call 42;refine (KH.out).mono ?_;rintro e w3 ⟨hb3,v3,rfl,ho3⟩;obtain ⟨a3,c3,rfl,-,-,-⟩ := id (ho3.read ζF).form;have HB3 := ζ (HB1.out.trans (hb3.mono (Below.size HB1.out)));clear hb3 ho3)
    go_ret2
    exact facts_err HE2.out HB3.out
   subst hq
   have KJ := ζ (fun W va vb (h1 : RdFacts (fun _ => True) W va o) (h2 : RdFacts (fun _ => True) W vb hl) => joinCalls va vb o hl W h1 h2 (by have := HHL.out;omega) (fun x hx => by have := HOA.out x hx;omega) (fun x hx => by have := HHA.out x hx;omega))
   have HJA := ζ (show ∀ y ∈ joinF o hl,y.args.length ≤ 1048576 from fun y hy => by
    rcases (mem_joinF _ _ y).1 hy with h | h
    ·exact HOA.out y h
    ·exact HHA.out y h)
   have H4 := ζ (H2.out rfl)
   have H5 := ζ (H3.out rfl)
   clear H1 H2 H3
   generalize joinF o hl = j at *
   by_cases hm : 200 < j.length
   ·have HE2 := ζ (H4.out hm)
    have i5 : (200 : Int) < (j.length : Int) := by omega
    clear hm H4 H5
    go_wp2_with (first
     | (go_at_call 42;refine (KH.out).mono ?_;rintro e w3 ⟨hb3,v3,rfl,ho3⟩;obtain ⟨a3,c3,rfl,-,-,-⟩ := id (ho3.read ζF).form;have HB3 := ζ (HB1.out.trans (hb3.mono (Below.size HB1.out)));have HR3 := ζ ((ho3.read ζF).more ζF (S' := fun _ => True) (fun _ _ _ => trivial));have HO3 := ζ (HO1.out.below ζF hb3);clear hb3 ho3)
     | (go_at_call 43;refine (KJ.out _ _ _ ((HO3.out.read ζF).more ζF (fun _ _ _ => trivial)) HR3.out).mono ?_;rintro e w4 ⟨⟨v4,rfl,ho4⟩,hb4⟩;obtain ⟨a4,c4,rfl,-,-,-⟩ := id (ho4.read ζF).form;have HB4 := ζ (HB3.out.trans (hb4.mono (Below.size HB3.out)));clear hb4 ho4))
    go_ret2
    exact facts_err HE2.out HB4.out
   ·have HE2 := ζ (H5.out hm)
    have i5 : ¬ (200 : Int) < (j.length : Int) := by omega
    have hjl : j.length ≤ 1048576 := by omega
    clear hm H4 H5
    go_wp2_with (first
     | (go_at_call 42;refine (KH.out).mono ?_;rintro e w3 ⟨hb3,v3,rfl,ho3⟩;obtain ⟨a3,c3,rfl,-,-,-⟩ := id (ho3.read ζF).form;have HB3 := ζ (HB1.out.trans (hb3.mono (Below.size HB1.out)));have HR3 := ζ ((ho3.read ζF).more ζF (S' := fun _ => True) (fun _ _ _ => trivial));have HO3 := ζ (HO1.out.below ζF hb3);clear hb3 ho3)
     | (go_at_call 43;refine (KJ.out _ _ _ ((HO3.out.read ζF).more ζF (fun _ _ _ => trivial)) HR3.out).mono ?_;rintro e w4 ⟨⟨v4,rfl,ho4⟩,hb4⟩;obtain ⟨a4,c4,rfl,-,-,-⟩ := id (ho4.read ζF).form;have HB4 := ζ (HB3.out.trans (hb4.mono (Below.size HB3.out)));have HO4 := ζ ((ho4.lower (Below.size HB3.out)).moreS ζF (S' := New w) fun b hb _ => Nat.le_trans (Below.size HB3.out) hb);clear hb4 ho4))
    go_roundw
    case rel => exact ⟨k + 1,j,by omega,by go_num,hjl,HJA,HO4,HB4,HE2⟩
    case measure => simp [intOf];omega
  ·have HE2 := ζ (show onceP n l (p.zip st) l = (o,0) by rw [HE.out,List.drop_eq_nil_of_le (by rw [List.length_zip];omega)];rfl)
   go_wp2
   go_ret2
   exact facts_ok HE2.out HB.out HO.out
theorem below_drewN {B : Nat} {w w' : World} (h : Below B w w') (n : Nat) : Below B w (w'.drewN n) := h.trans ⟨rfl,rfl,rfl,ζn _,fun _ _ => rfl⟩
theorem exists_strata (p : List PRule) : ∃ st q,StrataIs p st q := by
 by_cases h : (wrongP p).1 = 0
 ·by_cases hs : ∃ N,Sol p N
  ·obtain ⟨N,hN⟩ := hs
   obtain ⟨L,hL⟩ := exists_least hN
   exact ⟨_,_,.inr ⟨h,.inl ⟨L,hL,rfl,rfl⟩⟩⟩
  ·exact ⟨_,_,.inr ⟨h,.inr ⟨fun N hN => hs ⟨N,hN⟩,rfl,rfl⟩⟩⟩
 ·exact ⟨_,_,.inl ⟨h,rfl,rfl⟩⟩
theorem strata_bd {p : List PRule} {st : List Int} {q : Int × Int} (hs : StrataIs p st q) (h : q.1 = 0) : st.length = p.length ∧ p.length ≤ 16 ∧ (∀ r ∈ p,r.body.length ≤ 5) ∧ (∀ z ∈ st,0 ≤ z ∧ z ≤ 16) ∧ 0 ≤ countP st ∧ countP st ≤ 17 := by
 obtain ⟨hR,hW,L,hL,rfl⟩ := strata_zero hs h
 have h16 := (wrongP_iff.1 hW).1
 have hz : ∀ z ∈ p.map (fun r => (L r.head.name : Int)),0 ≤ z ∧ z ≤ 16 := fun z hz => by
  obtain ⟨r,hr,rfl⟩ := List.mem_map.1 hz
  have := hL.bound (D := headsOf p) (fun x hx => hx) (s := r.head.name) (List.mem_map.2 ⟨r,hr,rfl⟩)
  have h2 : (headsOf p).length = p.length := by simp [headsOf]
  omega
 refine ⟨by simp,h16,fun r hr => ruleBad_body (hR r hr),hz,?_⟩
 rcases count_is (p.map fun r => (L r.head.name : Int)) with ⟨-,h1⟩ | ⟨x,hx,h1⟩
 ·omega
 ·have := hz x hx;omega
def lenV : Value → Nat
 | .slice _ n _ => n
 | _ => 0
theorem naive_err1 {st : List Int} {q : Int} {p : List PRule} {l : List PFact} (h : q ≠ 0) : naiveP st q p l = ([],q) := by unfold naiveP;rw [if_pos h]
theorem naive_err2 {st : List Int} {q : Int} {p : List PRule} {l : List PFact} (h : q = 0) (hf : (factsBad p l).1 ≠ 0) : naiveP st q p l = ([],(factsBad p l).1) := by unfold naiveP;rw [if_neg (by simpa using h),if_pos hf]
theorem naive_run {st : List Int} {q : Int} {p : List PRule} {l : List PFact} (h : q = 0) (hf : (factsBad p l).1 = 0) : naiveP st q p l = runP (p.zip st) (countP st).toNat 0 l := by unfold naiveP;rw [if_neg (by simpa using h),if_neg (by simpa using hf)]
theorem fix_err {ps : List (PRule × Int)} {n : Int} {k : Nat} {o : List PFact} (h : (onceP n o ps o).2 ≠ 0) : fixP ps n (k + 1) o = ([],(onceP n o ps o).2) := by rw [fixP,if_pos h]
theorem fix_done {ps : List (PRule × Int)} {n : Int} {k : Nat} {o : List PFact} (h : (onceP n o ps o).2 = 0) (hl : (onceP n o ps o).1.length = o.length) : fixP ps n (k + 1) o = (o,0) := by rw [fixP,if_neg (by simpa using h),if_pos hl]
theorem fix_next {ps : List (PRule × Int)} {n : Int} {k : Nat} {o : List PFact} (h : (onceP n o ps o).2 = 0) (hl : ¬ (onceP n o ps o).1.length = o.length) : fixP ps n (k + 1) o = fixP ps n k (onceP n o ps o).1 := by rw [fixP,if_neg (by simpa using h),if_neg hl]
theorem run_err {ps : List (PRule × Int)} {i : Int} {k : Nat} {o : List PFact} (h : (fixP ps i 201 o).2 ≠ 0) : runP ps (k + 1) i o = ([],(fixP ps i 201 o).2) := by rw [runP,if_pos h]
theorem run_next {ps : List (PRule × Int)} {i : Int} {k : Nat} {o : List PFact} (h : (fixP ps i 201 o).2 = 0) : runP ps (k + 1) i o = runP ps k (i + 1) (fixP ps i 201 o).1 := by rw [runP,if_neg (by simpa using h)]
theorem once_args {n : Int} {l : List PFact} {m : Nat} : ∀ {ps : List (PRule × Int)} {o : List PFact},(∀ r s,(r,s) ∈ ps → r.head.terms.length ≤ m) → (∀ x ∈ o,x.args.length ≤ m) → ∀ x ∈ (onceP n l ps o).1,x.args.length ≤ m
 | [],o,_,ho,x,hx => ho x hx
 | (r,s) :: ps,o,hp,ho,x,hx => by
  have hp' : ∀ r s,(r,s) ∈ ps → r.head.terms.length ≤ m := fun r s h => hp r s (List.mem_cons_of_mem _ h)
  rw [onceP] at hx
  split at hx
  ·exact once_args hp' ho x hx
  ·split at hx
   ·simp at hx
   ·split at hx
    ·simp at hx
    ·refine once_args hp' (fun y hy => ?_) x hx
     rcases (mem_joinF _ _ y).1 hy with h | h
     ·exact ho y h
     ·rw [heads_args h];exact hp r s (by simp)
set_option maxRecDepth 100000 in
set_option maxHeartbeats 0 in
theorem naiveCalls {S S3 : Nat → Prop} (p : List PRule) (v fv : Value) (st : List Int) (q : Int × Int) (l : List PFact) (w : World) (hS : StrataIs p st q) (h : RdRules S w v p) (hf : RdFacts S3 w fv l)
 (n1 : p.length ≤ 1048576) (n2 : ∀ r ∈ p,RuleSmall r) (n3 : ∀ r ∈ p,NameSmall r) (n4 : l.length ≤ 1048576) (n5 : ∀ x ∈ l,x.args.length ≤ 1048576) :
 Calls Tryz.prog 11 #[v,fv] w (FactsPost (naiveP st q.1 p l) w) := by
 obtain ⟨a,c,rfl,-,-,-⟩ := id h.form
 obtain ⟨fa,fc,rfl,-,-,-⟩ := id hf.form
 have KS := ζ ((strataCalls p (.slice a p.length c) w h n1 n2 n3).mono (R' := fun e w' => Below w.heap.size w w' ∧ ∃ v',e = .returned (.tuple #[v',.agg #[.int .i64 q.1,.int .i64 q.2]]) ∧ RdInts (New w) w' v' st) fun e w' ⟨hb,v',l',q',he,hr,hs⟩ => by
  obtain ⟨rfl,rfl⟩ := hs.unique hS
  exact ⟨hb,v',he,hr⟩)
 have HS := ζ hS
 have H := ζ h
 have HFA := ζ hf
 have N2 := ζ n2
 have N3 := ζ n3
 have N5 := ζ n5
 clear h hf n2 n3 n5 hS
 obtain ⟨q1,q2⟩ := q
 dsimp only at *
 by_cases hq : q1 = 0
 case neg =>
  have g1 : (q1 != 0) = true := by simpa using hq
  have HE := ζ (naive_err1 (st := st) (p := p) (l := l) hq)
  clear hq
  go_enter Tryz.func11,Tryz.ntmps11
  go_wp2_with (go_at_call 15;refine (KS.out).mono ?_;rintro e w1 ⟨hb1,v1,rfl,hr1⟩;obtain ⟨a1,c1,rfl,-,-,-⟩ := id hr1.form;have HB1 := ζ (hb1.alloc hb1.size (.cells #[.int .i64 q1,.int .i64 q2] 49));clear hb1 hr1)
  go_quiet (fail)
  go_wp2
  go_ret2
  exact facts_err HE.out (below_drewN HB1.out _)
 have hbd := strata_bd HS.out hq
 obtain ⟨hsl,h16,h5,hz16,hc0,hc17⟩ := hbd
 have HZ := ζ hz16
 have HSL := ζ hsl
 clear hsl
 have H5 := ζ h5
 have HSQ := ζ hq
 clear h5 hz16
 subst hq
 have KF := ζ (fun W (hW : Below w.heap.size w W) => factsCalls p (.slice a p.length c) (.slice fa l.length fc) l W (H.out.up hW) (HFA.out.up hW) h16 H5.out N2.out N3.out n4 N5.out)
 by_cases hf : (factsBad p l).1 = 0
 case neg =>
  have g2 : ((factsBad p l).1 != 0) = true := by simpa using hf
  have HE := ζ (naive_err2 (st := st) (p := p) (l := l) (q := 0) rfl hf)
  clear hf HZ H5 HSQ
  generalize factsBad p l = f at *
  obtain ⟨f1,f2⟩ := f
  dsimp only at *
  go_enter Tryz.func11,Tryz.ntmps11
  go_wp2_with (first
   | (go_at_call 29;refine (KF.out _ HB1.out).mono ?_;rintro e w2 ⟨rfl,hb2⟩;have HB2 := ζ ((HB1.out.trans (hb2.mono (Below.size HB1.out))).alloc (Nat.le_trans (Below.size HB1.out) hb2.size) (.cells #[.int .i64 f1,.int .i64 f2] 49));clear hb2)
   | (go_at_call 15;refine (KS.out).mono ?_;rintro e w1 ⟨hb1,v1,rfl,hr1⟩;obtain ⟨a1,c1,rfl,-,-,-⟩ := id hr1.form;have HB1 := ζ (hb1.alloc hb1.size (.cells #[.int .i64 0,.int .i64 q2] 49));clear hb1 hr1))
  go_quiet (fail)
  go_wp2
  go_ret2
  exact facts_err HE.out (below_drewN HB2.out _)
 have HSF := ζ (good_of (factsBad_set hf))
 have HE := ζ (naive_run (st := st) (p := p) (l := l) (q := 0) rfl hf)
 have hll := HSF.out.len
 rw [hf] at KF
 generalize (factsBad p l).2 = f2 at *
 have KO := ζ (fun W (hW : Below w.heap.size w W) => ownCalls (.slice fa l.length fc) l W (HFA.out.up hW) (by omega) (fun x hx => by have := N5.out x hx;omega))
 clear hf HSQ
 go_enter Tryz.func11,Tryz.ntmps11
 go_wp2_with (first
  | (go_at_call 19;have hh := HR3.out;clear hh;refine (countCalls _ st _ HR3.out (by rw [HSL.out];omega) (fun z hz => by have := HZ.out z hz;omega)).mono ?_;rintro e w4 ⟨rfl,rfl⟩)
  | (go_at_call 18;have hh := HB2.out;clear hh;refine (KO.out _ HB2.out).mono ?_;rintro e w3 ⟨⟨v3,rfl,ho3⟩,hb3⟩;have HB3 := ζ (HB2.out.trans (hb3.mono (Below.size HB2.out)));have HO3 := ζ ((ho3.lower (Below.size HB2.out)).moreS ζF (S' := New w) fun b hb _ => Nat.le_trans (Below.size HB2.out) hb);have HR3 := ζ (HR2.out.up hb3);clear hb3 ho3)
  | (go_at_call 29;have hh := HB1.out;clear hh;refine (KF.out _ HB1.out).mono ?_;rintro e w2 ⟨rfl,hb2⟩;have HB2 := ζ ((HB1.out.trans (hb2.mono (Below.size HB1.out))).alloc (Nat.le_trans (Below.size HB1.out) hb2.size) (.cells #[.int .i64 0,.int .i64 f2] 49));have HR2 := ζ (HR1.out.up (hb2.alloc hb2.size (.cells #[.int .i64 0,.int .i64 f2] 49)));clear hb2)
  | (go_at_call 15;refine (KS.out).mono ?_;rintro e w1 ⟨hb1,v1,rfl,hr1⟩;obtain ⟨a1,c1,rfl,-,-,-⟩ := id hr1.form;have HB1 := ζ (hb1.alloc hb1.size (.cells #[.int .i64 0,.int .i64 q2] 49));have HR1 := ζ (hr1.up ((ζb _ _).alloc (ζn _) (.cells #[.int .i64 0,.int .i64 q2] 49)));clear hb1 hr1))
 obtain ⟨cn,hcn⟩ : ∃ cn : Nat,countP st = cn := ⟨(countP st).toNat,by omega⟩
 rw [hcn] at HE hc17 ⊢
 have htn : ((cn : Int)).toNat = cn := rfl
 rw [htn] at HE
 clear htn hcn hc0 KF KO KS HB1 HB2 HR1 HR2
 have HRB := ζ (show ∀ r s,(r,s) ∈ p.zip st → ruleBad r = 0 from fun r s hm => (strata_zero HS.out rfl).1 r (List.of_mem_zip hm).1)
 have HTA := ζ (show ∀ r s,(r,s) ∈ p.zip st → r.head.terms.length ≤ 1048576 from fun r s hm => (N2.out r (List.of_mem_zip hm).1).h1)
 obtain ⟨wo,hwo⟩ : ∃ wo : World,wo = w4 := ⟨_,rfl⟩
 subst hwo
 have HBO := ζ (ζb wo.heap.size wo)
 have HE0 := ζ (show naiveP st 0 p l = runP (p.zip st) (cn - 0) ((0 : Nat) : Int) l from HE.out)
 go_loopw [35,9] (fun i v wr => ∃ (j : Nat) (o : List PFact),j ≤ cn ∧ i = .int .i64 j ∧ Hid (Good o) ∧ Hid (∀ x ∈ o,x.args.length ≤ 1048576) ∧ Hid (Owned 2 RFact w.heap.size 27 (New w) wr v o) ∧ Hid (Below wo.heap.size wo wr) ∧ Hid (naiveP st 0 p l = runP (p.zip st) (cn - j) (j : Int) o)) (fun i _ _ => cn - (intOf i).toNat)
 case atStart => exact ⟨0,l,Nat.zero_le _,rfl,HSF,N5,HO3,HBO,HE0⟩
 case round =>
  clear HBO HO3 HE HE0 HSF hll
  obtain ⟨j,o,hj,rfl,HG,HA,HO,HB,HE⟩ := hrel
  obtain ⟨va,vc,efm,-,-,-⟩ := (HO.out.read ζF).form
  subst efm
  by_cases hlt : j < cn
  ·obtain ⟨m,hm⟩ : ∃ m,cn - j = m + 1 := ⟨cn - j - 1,by omega⟩
   rw [hm] at HE
   have HM := ζ (show cn - (j + 1) = m by omega)
   have hl0 : 200 < 201 + o.length := by omega
   clear hm
   go_wp2
   obtain ⟨o0,ho0⟩ : ∃ o0,o0 = o := ⟨_,rfl⟩
   subst ho0
   have HG0 := HG
   go_loopw [9] (fun v wr => ∃ (k : Nat) (o : List PFact),200 < k + o.length ∧ Hid (Good o) ∧ Hid (∀ x ∈ o,x.args.length ≤ 1048576) ∧ Hid (Owned 2 RFact w.heap.size 27 (New w) wr v o) ∧ Hid (Below wo.heap.size wo wr) ∧ Hid (fixP (p.zip st) (j : Int) 201 o0 = fixP (p.zip st) (j : Int) k o)) (fun v _ => 201 - lenV v)
   case atStart => exact ⟨201,o0,hl0,HG,HA,HO,HB,ζ rfl⟩
   case round =>
    clear HG HA HO HB hl0
    obtain ⟨k,o,hk,HG,HA,HO,HB,HX⟩ := hrel
    obtain ⟨va,vc,efm,-,-,-⟩ := (HO.out.read ζF).form
    subst efm
    have hol := HG.out.len
    obtain ⟨k',rfl⟩ : ∃ k',k = k' + 1 := ⟨k - 1,by omega⟩
    have HBW := ζ (HB3.out.trans (HB.out.mono (Below.size HB3.out)))
    have KC := ζ (onceCalls p (.slice a p.length c) (.slice a1 st.length c1) (.slice va o.length vc) st (j : Int) o wr (H.out.up HBW.out) (HR3.out.up HB.out) (HO.out.read ζF) HSL.out n1 N2.out (by omega) HA.out)
    have HG1 := ζ (once_good (n := (j : Int)) HG.out HRB.out HG.out)
    have HL1 := ζ (fun h0 => (show o.length ≤ (onceP (j : Int) o (p.zip st) o).1.length from rising_sub_le HG.out.rise fun x hx => ((once_round h0 HG.out.rise HG.out.len).mem x).2 (.inl hx)))
    have HA1 := ζ (once_args (n := (j : Int)) (l := o) HTA.out HA.out)
    have F1 := ζ (fix_err (ps := p.zip st) (n := (j : Int)) (k := k') (o := o))
    have F2 := ζ (fix_done (ps := p.zip st) (n := (j : Int)) (k := k') (o := o))
    have F3 := ζ (fix_next (ps := p.zip st) (n := (j : Int)) (k := k') (o := o))
    generalize onceP (j : Int) o (p.zip st) o = r at *
    obtain ⟨x,q⟩ := r
    dsimp only at *
    by_cases hq : q = 0
    case neg =>
     have g2 : (q != 0) = true := by simpa using hq
     have HXE := ζ (show fixP (p.zip st) (j : Int) 201 o0 = ([],q) from HX.out.trans (F1.out hq))
     have HEE := ζ (show naiveP st 0 p l = ([],q) by rw [HE.out,run_err (by rw [HXE.out];exact hq),HXE.out])
     clear hq F1 F2 F3 HXE HL1 HG1
     go_wp2_with (go_at_call 20;refine (KC.out).mono ?_;rintro e w5 ⟨hb5,v5,rfl,ho5⟩;obtain ⟨a5,c5,rfl,-,-,-⟩ := id (ho5.read ζF).form;have HB5 := ζ (HBW.out.trans (hb5.mono (Below.size HBW.out)));clear hb5 ho5)
     go_ret2
     exact facts_err HEE.out HB5.out
    subst hq
    have hge := HL1.out rfl
    have hgx := HG1.out rfl
    have hxl := hgx.len
    have HG2 := ζ hgx
    clear HL1 HG1 hgx F1
    by_cases hle : x.length = o.length
    ·have HXE := ζ (show fixP (p.zip st) (j : Int) 201 o0 = (o,0) from HX.out.trans (F2.out rfl hle))
     have HEE := ζ (show naiveP st 0 p l = runP (p.zip st) (cn - (j + 1)) ((j + 1 : Nat) : Int) o by
      rw [HE.out,run_next (by rw [HXE.out]),HXE.out,HM.out];rfl)
     have i5 : ((x.length : Int) == (o.length : Int)) = true := beq_iff_eq.2 (by omega)
     have hle' : (x.length : Int) = (o.length : Int) := by omega
     clear hle F2 F3 HXE
     go_wp2_with (go_at_call 20;refine (KC.out).mono ?_;rintro e w5 ⟨hb5,v5,rfl,ho5⟩;obtain ⟨a5,c5,rfl,-,-,-⟩ := id (ho5.read ζF).form;have HB5 := ζ (HB.out.trans (hb5.mono (Below.size HB.out)));have HO5 := ζ (HO.out.below ζF hb5);clear hb5 ho5)
     go_roundw
     case rel => exact ⟨j + 1,o,by omega,by go_num,HG,HA,HO5,HB5,HEE⟩
     case measure => simp [intOf];omega
    ·have HXE := ζ (HX.out.trans (F3.out rfl hle))
     have i5 : ((x.length : Int) == (o.length : Int)) = false := beq_eq_false_iff_ne.2 (by omega)
     have hle' : ¬ (x.length : Int) = (o.length : Int) := by omega
     have hlx : o.length < x.length := by omega
     have hk2 : 200 < k' + x.length := by omega
     clear hle F2 F3
     go_wp2_with (go_at_call 20;refine (KC.out).mono ?_;rintro e w5 ⟨hb5,v5,rfl,ho5⟩;obtain ⟨a5,c5,rfl,-,-,-⟩ := id (ho5.read ζF).form;have HB5 := ζ (HB.out.trans (hb5.mono (Below.size HB.out)));have HO5 := ζ ((ho5.lower (Below.size HBW.out)).moreS ζF (S' := New w) fun b hb _ => Nat.le_trans (Below.size HBW.out) hb);clear hb5 ho5)
     go_roundw
     case rel => exact ⟨k',x,hk2,HG2,HA1,HO5,HB5,HXE⟩
     case measure => simp [lenV];omega
  ·have HEE := ζ (show naiveP st 0 p l = (o,0) by rw [HE.out,show cn - j = 0 by omega];rfl)
   go_wp2
   go_ret2
   exact facts_ok HEE.out (HB3.out.trans (HB.out.mono (Below.size HB3.out))) HO.out
end
section
open Go.RowKit
end
section
open Go.RowKit
theorem strataKnown {S : Nat → Prop} {p : List PRule} {v : Value} {w : World} {l : List Int} {x y : Int} {n : Nat} (hn : l.length = n) (hk : StrataIs p l (x,y)) (h : RdRules S w v p) (n1 : p.length ≤ 1048576) (n2 : ∀ r ∈ p,RuleSmall r) (n3 : ∀ r ∈ p,NameSmall r) :
 Calls Tryz.prog 15 #[v] w fun e w' => (∃ a c,e = .returned (.tuple #[.slice a n c,.agg #[.int .i64 x,.int .i64 y]]) ∧ RdInts (New w) w' (.slice a n c) l) ∧ Below w.heap.size w w' := by
 refine (strataCalls p v w h n1 n2 n3).mono fun e w' ⟨hb,v',l',q,he,hr,hs⟩ => ⟨?_,hb⟩
 obtain ⟨rfl,rfl⟩ := hs.unique hk
 obtain ⟨a,c,rfl,-,-,-⟩ := id hr.form
 subst hn
 exact ⟨a,c,he,hr⟩
end
section
open Go.RowKit
def xa : Str := ⟨#[97]⟩
def xc : Str := ⟨#[99]⟩
theorem naiveKnown {S S3 : Nat → Prop} {p : List PRule} {v fv : Value} {st : List Int} {q : Int × Int} {l r : List PFact} {e0 : Int} {n : Nat} {w : World} (hn : r.length = n) (hS : StrataIs p st q) (hr : naiveP st q.1 p l = (r,e0)) (h : RdRules S w v p) (hf : RdFacts S3 w fv l)
 (n1 : p.length ≤ 1048576) (n2 : ∀ r ∈ p,RuleSmall r) (n3 : ∀ r ∈ p,NameSmall r) (n4 : l.length ≤ 1048576) (n5 : ∀ x ∈ l,x.args.length ≤ 1048576) :
 Calls Tryz.prog 11 #[v,fv] w fun e w' => (∃ a c,e = .returned (.tuple #[.slice a n c,.int .i64 e0]) ∧ RdFacts (fun _ => True) w' (.slice a n c) r) ∧ Below w.heap.size w w' := by
 subst hn
 refine (naiveCalls p v fv st q l w hS h hf n1 n2 n3 n4 n5).mono fun e w' ⟨hb,v',he,ho⟩ => ⟨?_,hb⟩
 rw [hr] at he ho
 have h' := (ho.read ζF).more ζF (S' := fun _ => True) (fun _ _ _ => trivial)
 obtain ⟨a,c,rfl,-,-,-⟩ := id h'.form
 exact ⟨a,c,he,h'⟩
end
section
open Go.RowKit Go.ChangeShapes Go.WideShapes Go.Deep
theorem bulk_append {H : Type} (l r : List (DataW H)) : Rows.uptoBulkAll (l ++ r) = Rows.uptoBulkAll l + Rows.uptoBulkAll r := by
 induction l with
 | nil => simp [Rows.uptoBulkAll]
 | cons x l ih => simp only [List.cons_append,Rows.uptoBulkAll,ih];omega
theorem cell_spot {w : World} {a : Addr} {v : Value} (h : w.cell? a = some v) : a.spot = none ∧ a.block < w.heap.size := by
 unfold World.cell? at h
 split at h
 ·rename_i c t f hc
  refine ⟨?_,(Array.getElem?_eq_some_iff.1 hc).1⟩
  cases hs : a.spot with
  | none => rfl
  | some s => rw [hs] at h;simp at h
 ·cases h
def sizeL {α : Type} (size : α → Nat) (l : List α) : Nat := 1 + (l.map size).sum
theorem sizeL_le {α : Type} {size : α → Nat} (hp : ∀ x,1 ≤ size x) (l : List α) : l.length + 1 ≤ sizeL size l := by
 unfold sizeL
 induction l with
 | nil => simp
 | cons x l ih => have := hp x;simp only [List.map_cons,List.sum_cons,List.length_cons];omega
theorem sizeL_mem {α : Type} {size : α → Nat} {l : List α} {x : α} (h : x ∈ l) : size x ≤ sizeL size l := by
 unfold sizeL
 induction l with
 | nil => cases h
 | cons y l ih =>
  simp only [List.map_cons,List.sum_cons]
  rcases List.mem_cons.1 h with rfl | h
  ·omega
  ·have := ih h;omega
structure Opens {α : Type} (P : Program) (t : TypeId) (k : Nat) (R : Reader α) (size : α → Nat) : Prop where
 cells : P.cellsOf t = k
 pos : 0 < k
 one : ∀ x,1 ≤ size x
 opn : ∀ {H : Type} {enc : TypeId × Value → H} {w : World} {n : Nat} {cs : List Value} {x : DataW H × List MemPlace},DataW.trod enc P w 0 (fun _ => true) true n t cs = some x → ∃ y,R (fun _ => True) w cs y ∧ size y ≤ Rows.uptoBulk x.1
theorem Opens.slice {α : Type} {P : Program} {t e : TypeId} {k : Nat} {R : Reader α} {size : α → Nat} (h : Opens P e k R size) (ht : P.underlying t = some (.slice e)) {H : Type} {enc : TypeId × Value → H} {w : World} {n : Nat} {cs : List Value} {x : DataW H × List MemPlace}
 (hx : DataW.trod enc P w 0 (fun _ => true) true n t cs = some x) : ∃ v l,cs = [v] ∧ RdSlice k R (fun _ => True) w v l ∧ sizeL size l ≤ Rows.uptoBulk x.1 := by
 rcases open_slice ht hx with ⟨rfl,rfl⟩ | ⟨a,len,cap,m,n',D,Pl,rfl,-,hl,hm,hmm,rfl,hi⟩
 ·exact ⟨_,[],rfl,⟨none,0,rfl,ζn _,Nat.zero_le _,fun _ => rfl,fun i x hx => by simp at hx⟩,by simp [sizeL,Rows.uptoBulk]⟩
 ·simp only [if_true] at hmm
  subst hmm
  have main : ∀ j,j ≤ len → ∃ l : List α,l.length = j ∧ (∀ i y,l[i]? = some y → ∃ cs',w.cells? 0 (a.add (i * P.cellsOf e)) (P.cellsOf e) = some cs' ∧ R (fun _ => True) w cs' y) ∧ (l.map size).sum ≤ Rows.uptoBulkAll ((List.range j).map D) := by
   intro j
   induction j with
   | zero => exact fun _ => ⟨[],rfl,fun i y hy => by simp at hy,by simp⟩
   | succ j ih =>
    intro hj
    obtain ⟨l,h1,h2,h3⟩ := ih (by omega)
    obtain ⟨cs',g1,g2⟩ := hi j (by omega)
    obtain ⟨y,r1,r2⟩ := h.opn g2
    refine ⟨l ++ [y],by simp [h1],fun i z hz => ?_,?_⟩
    ·by_cases hij : i < j
     ·rw [List.getElem?_append_left (by omega)] at hz;exact h2 i z hz
     ·rw [List.getElem?_append_right (by omega)] at hz
      have : i - l.length = 0 := by
       have := (List.getElem?_eq_some_iff.1 hz).1
       simp at this;omega
      rw [this] at hz
      obtain rfl : y = z := by simpa using hz
      obtain rfl : i = j := by omega
      exact ⟨cs',g1,r1⟩
    ·rw [List.range_succ,List.map_append (f := D),bulk_append,List.map_append,List.sum_append]
     simp [Rows.uptoBulkAll]
     simp at r2
     omega
  obtain ⟨l,h1,h2,h3⟩ := main len (ζn _)
  refine ⟨_,l,rfl,⟨some a,m,by rw [h1],by omega,hm,(fun e => by cases e),fun i y hy => ?_⟩,by simp only [sizeL,Rows.uptoBulk];omega⟩
  obtain ⟨cs',g1,g2⟩ := h2 i y hy
  obtain ⟨-,hlen,hget⟩ := World.cells?_some g1
  rw [h.cells] at hlen hget
  have hk := h.pos
  obtain ⟨b,off,spot⟩ := a
  have hspot : spot = none ∧ b < w.heap.size := by
   obtain ⟨y0,hy0⟩ : ∃ y0,l[0]? = some y0 := ⟨_,ζe (by have := (List.getElem?_eq_some_iff.1 hy).1;omega)⟩
   obtain ⟨cs0,g3,-⟩ := h2 0 y0 hy0
   obtain ⟨-,hlen0,hget0⟩ := World.cells?_some g3
   rw [h.cells] at hlen0 hget0
   have h0 := hget0 0 hk
   rw [ζe (by omega)] at h0
   have := cell_spot h0
   simpa [Addr.add] using this
  obtain ⟨rfl,hb⟩ := hspot
  refine ⟨b,off,cs',rfl,trivial,hb,hlen,fun j u hu => ?_,g2⟩
  ·have hj : j < k := by rw [← hlen];exact (List.getElem?_eq_some_iff.1 hu).1
   have := hget j hj
   rw [hu] at this
   have hadd : ((⟨b,off,none⟩ : Addr).add (i * k)).add j = ⟨b,off + i * k + j,none⟩ := by
    unfold Addr.add
    split
    ·split
     ·simp_all
     ·simp_all
    ·split <;> simp_all <;> omega
   rwa [hadd] at this
theorem Opens.arg {α : Type} {P : Program} {t : TypeId} {k : Nat} {R : Reader α} {size : α → Nat} (h : Opens P t k R size) {fs : Array Field} (ht : P.underlying t = some (.struct fs)) {H : Type} {enc : TypeId × Value → H} {W : World} {r : Reach} {b : Nat} {v : Value} {d : DataW H} {p : List MemPlace}
 (hv : Value.okWide P W r b t v) (hd : DataW.Trod enc P W 0 (fun _ => true) true t v d p) : ∃ x cs,v = .agg cs ∧ R (fun _ => True) W cs.toList x ∧ size x ≤ Rows.uptoBulk d := by
 obtain ⟨cs,rfl,-⟩ := okWide_struct ht hv
 obtain ⟨n,hn⟩ := hd
 obtain ⟨x,hr,hb⟩ := h.opn hn
 exact ⟨x,cs,rfl,hr,hb⟩
theorem Opens.sliceArg {α : Type} {P : Program} {t e : TypeId} {k : Nat} {R : Reader α} {size : α → Nat} (h : Opens P e k R size) (ht : P.underlying t = some (.slice e)) {H : Type} {enc : TypeId × Value → H} {W : World} {r : Reach} {b : Nat} {v : Value} {d : DataW H} {p : List MemPlace}
 (hv : Value.okWide P W r b t v) (hd : DataW.Trod enc P W 0 (fun _ => true) true t v d p) : ∃ l,RdSlice k R (fun _ => True) W v l ∧ sizeL size l ≤ Rows.uptoBulk d := by
 obtain ⟨a,len,cap,rfl⟩ := okWide_slice ht hv
 obtain ⟨n,hn⟩ := hd
 obtain ⟨v',l,e1,hr,hb⟩ := h.slice ht hn
 have e2 : [Value.slice a len cap] = [v'] := e1
 obtain rfl : Value.slice a len cap = v' := by simpa using e2
 exact ⟨l,hr,hb⟩
theorem Opens.factArg {P : Program} {t : TypeId} {size : PFact → Nat} (h : Opens P t 2 RFact size) {fs : Array Field} (ht : P.underlying t = some (.struct fs)) {H : Type} {enc : TypeId × Value → H} {W : World} {r : Reach} {b : Nat} {v : Value} {d : DataW H} {p : List MemPlace}
 (hv : Value.okWide P W r b t v) (hd : DataW.Trod enc P W 0 (fun _ => true) true t v d p) : ∃ (f : PFact) (av : Value),v = .agg #[.string f.name,av] ∧ RdStrs (fun _ => True) W av f.args ∧ size f ≤ Rows.uptoBulk d := by
 obtain ⟨f,cs,rfl,⟨av,e,hr⟩,hb⟩ := h.arg ht hv hd
 exact ⟨f,av,by rw [← Array.toArray_toList (xs := cs),e],hr,hb⟩
theorem list2 {l : List Value} (h : l.length = 2) : ∃ a b,l = [a,b] := match l,h with | [a,b],_ => ⟨a,b,rfl⟩
theorem list3 {l : List Value} (h : l.length = 3) : ∃ a b c,l = [a,b,c] := match l,h with | [a,b,c],_ => ⟨a,b,c,rfl⟩
theorem list4 {l : List Value} (h : l.length = 4) : ∃ a b c d,l = [a,b,c,d] := match l,h with | [a,b,c,d],_ => ⟨a,b,c,d,rfl⟩
def sizeStr (s : Str) : Nat := s.size + 1
def sizeInt (_ : Int) : Nat := 1
def sizeFact (f : PFact) : Nat := 1 + sizeStr f.name + sizeL sizeStr f.args
def sizeTerm (f : PTerm) : Nat := 2 + sizeStr f.name
def sizeAtom (f : PAtom) : Nat := 2 + sizeStr f.name + sizeL sizeTerm f.terms
def sizeRule (f : PRule) : Nat := 1 + sizeAtom f.head + sizeL sizeAtom f.body
theorem openStr : Opens Tryz.prog 9 1 RStr sizeStr where
 cells := by kernel_rfl
 pos := by omega
 one _ := by simp only [sizeStr];omega
 opn h := by
  obtain ⟨s,rfl,rfl,-⟩ := DataW.trod_string Tryz.underlying9 h
  refine ⟨s,rfl,?_⟩
  have : s.data.toList.length = s.size := by rw [Array.length_toList];rfl
  simp only [sizeStr,Rows.uptoBulk];omega
theorem openInt : Opens Tryz.prog 3 1 RInt sizeInt where
 cells := by kernel_rfl
 pos := by omega
 one _ := by simp [sizeInt]
 opn h := by
  obtain ⟨s,rfl,rfl,-⟩ := DataW.trod_int Tryz.underlying3 h
  exact ⟨s,rfl,by simp [sizeInt,Rows.uptoBulk]⟩
theorem openFact : Opens Tryz.prog 27 2 RFact sizeFact where
 cells := by kernel_rfl
 pos := by omega
 one _ := by simp only [sizeFact];omega
 opn {H enc w n cs x} h := by
  obtain ⟨y0,y1,n,rfl,hl,h0,h1⟩ := trod_struct2 Tryz.underlying27 h
  rw [show Tryz.prog.cellsOf 27 = 2 by kernel_rfl] at hl
  obtain ⟨c0,c1,rfl⟩ := list2 hl
  rw [show Tryz.prog.cellsOf 9 = 1 by kernel_rfl] at h0
  rw [show Tryz.prog.cellsOf 25 = 1 by kernel_rfl] at h1
  obtain ⟨s,e0,b0⟩ := openStr.opn h0
  obtain ⟨v,l,e1,hr,b1⟩ := openStr.slice Tryz.underlying25 h1
  obtain rfl : c0 = .string s := by simpa [RStr] using e0
  obtain rfl : c1 = v := by simpa using e1
  exact ⟨⟨s,l⟩,⟨_,rfl,hr⟩,by simp only [sizeFact,Rows.uptoBulk,Rows.uptoBulkAll];omega⟩
theorem openTerm : Opens Tryz.prog 104 2 RTerm sizeTerm where
 cells := by kernel_rfl
 pos := by omega
 one _ := by simp only [sizeTerm];omega
 opn {H enc w n cs x} h := by
  obtain ⟨y0,y1,n,rfl,hl,h0,h1⟩ := trod_struct2 Tryz.underlying104 h
  rw [show Tryz.prog.cellsOf 104 = 2 by kernel_rfl] at hl
  obtain ⟨c0,c1,rfl⟩ := list2 hl
  rw [show Tryz.prog.cellsOf 4 = 1 by kernel_rfl] at h0
  rw [show Tryz.prog.cellsOf 9 = 1 by kernel_rfl] at h1
  obtain ⟨b,e0,rfl⟩ := DataW.trod_bool Tryz.underlying4 h0
  obtain ⟨s,e1,b1⟩ := openStr.opn h1
  obtain rfl : c0 = .bool b := by simpa using e0
  obtain rfl : c1 = .string s := by simpa [RStr] using e1
  exact ⟨⟨b,s⟩,rfl,by simp only [sizeTerm,Rows.uptoBulk,Rows.uptoBulkAll];omega⟩
theorem openAtom : Opens Tryz.prog 78 3 RAtom sizeAtom where
 cells := by kernel_rfl
 pos := by omega
 one _ := by simp only [sizeAtom];omega
 opn {H enc w n cs x} h := by
  obtain ⟨y0,y1,y2,n,rfl,hl,h0,h1,h2⟩ := trod_struct3 Tryz.underlying78 h
  rw [show Tryz.prog.cellsOf 78 = 3 by kernel_rfl] at hl
  obtain ⟨c0,c1,c2,rfl⟩ := list3 hl
  rw [show Tryz.prog.cellsOf 4 = 1 by kernel_rfl] at h0
  rw [show Tryz.prog.cellsOf 9 = 1 by kernel_rfl] at h1
  rw [show Tryz.prog.cellsOf 76 = 1 by kernel_rfl] at h2
  obtain ⟨b,e0,rfl⟩ := DataW.trod_bool Tryz.underlying4 h0
  obtain ⟨s,e1,b1⟩ := openStr.opn h1
  obtain ⟨v,l,e2,hr,b2⟩ := openTerm.slice Tryz.underlying76 h2
  obtain rfl : c0 = .bool b := by simpa using e0
  obtain rfl : c1 = .string s := by simpa [RStr] using e1
  obtain rfl : c2 = v := by simpa using e2
  exact ⟨⟨b,s,l⟩,⟨_,rfl,hr⟩,by simp only [sizeAtom,Rows.uptoBulk,Rows.uptoBulkAll];omega⟩
theorem openRule : Opens Tryz.prog 81 4 RRule sizeRule where
 cells := by kernel_rfl
 pos := by omega
 one _ := by simp only [sizeRule];omega
 opn {H enc w n cs x} h := by
  obtain ⟨y0,y1,n,rfl,hl,h0,h1⟩ := trod_struct2 Tryz.underlying81 h
  rw [show Tryz.prog.cellsOf 81 = 4 by kernel_rfl] at hl
  obtain ⟨c0,c1,c2,c3,rfl⟩ := list4 hl
  rw [show Tryz.prog.cellsOf 78 = 3 by kernel_rfl] at h0
  rw [show Tryz.prog.cellsOf 79 = 1 by kernel_rfl] at h1
  obtain ⟨a,⟨tv,e0,hr0⟩,b0⟩ := openAtom.opn h0
  obtain ⟨v,l,e1,hr,b1⟩ := openAtom.slice Tryz.underlying79 h1
  obtain ⟨rfl,rfl,rfl⟩ : c0 = .bool a.neg ∧ c1 = .string a.name ∧ c2 = tv := by simpa using e0
  obtain rfl : c3 = v := by simpa using e1
  exact ⟨⟨a,l⟩,⟨_,_,rfl,hr0,hr⟩,by simp only [sizeRule,Rows.uptoBulk,Rows.uptoBulkAll];omega⟩
theorem trodAll_carry {H : Type} {enc : TypeId × Value → H} {P : Program} (hl : laidOutB P = true) {W W' : World} (hb : Below W.heap.size W W') {sp : Nat → Bool} :
 ∀ {ts : List TypeId} {vs : List Value} {ds : List (DataW H)} {ps : List MemPlace},ts.all (fun t => P.readableRec t && decide (t < P.types.size)) = true → (∀ x ∈ ps,x.block < W.heap.size) → (∀ x ∈ ps,sp x.block = true) →
  DataW.TrodAll enc P W 0 (fun _ => true) true ts vs ds ps → DataW.TrodAll enc P W' 0 sp true ts vs ds ps
 | [],_,_,_,_,_,_,h => by
  obtain ⟨rfl,rfl,rfl⟩ := trodAll_nil h
  exact trodAll_mk0
 | t :: ts,_,_,_,ht,hlt,hsp,h => by
  obtain ⟨v,vs1,d,ds1,a,b,rfl,rfl,rfl,h1,h2⟩ := trodAll_cons h
  simp only [List.all_cons,Bool.and_eq_true,decide_eq_true_eq] at ht
  exact ⟨a,b,WideElems.Trod_stays hl ht.1.1 ht.1.2 h1 (fun x hx => hb.same (hlt x (by simp [hx]))) (fun x hx => hsp x (by simp [hx])),
   trodAll_carry hl hb (by simpa using ht.2) (fun x hx => hlt x (by simp [hx])) (fun x hx => hsp x (by simp [hx])) h2,rfl⟩
theorem law_post {H : Type} {enc : TypeId × Value → H} {P : Program} {f : Func} {s : ChangeSpec} {fresh handsOn again : Bool} {W W' : World} {args : Array Value} {ds gs : List (DataW H)} {before : List MemPlace} {tb : TypeId}
 (hW : DataW.Whole enc P f.params.toList s.vars false W args.toList ds gs before) (hv : s.vars = []) (hfn : s.fn H ds = { results := [.lit (.bool true)],args := ds }) (hrt : f.resultTypes = #[tb]) (htb : P.underlying tb = some .bool)
 (hl : laidOutB P = true) (hread : f.params.toList.all (fun t => P.readableRec t && decide (t < P.types.size)) = true) (hb : Below W.heap.size W W') : s.post enc P f false fresh handsOn again W args (.bool true) W' := by
 have hlt := hW.lt
 have hold : ∀ p ∈ before,(fun b => decide (b < W.heap.size)) p.block = true := fun p hp => by simpa using hlt p hp
 have hW' := hW
 obtain ⟨p,q,hA,hV,rfl,hz,hn⟩ := hW
 rw [hv] at hV
 obtain ⟨rfl,rfl⟩ := trodVars_none hV
 have hds : ds ++ ([] : List (DataW H)) = ds := List.append_nil _
 have hargs : ∀ sp : Nat → Bool,(∀ x ∈ p,sp x.block = true) → DataW.TrodAll enc P W' 0 sp true f.params.toList args.toList (s.fn H (ds ++ [])).args p := fun sp hsp => by
  rw [hds,hfn]
  exact trodAll_carry hl hb hread (fun x hx => hlt x (by simp [hx])) hsp hA
 have hres : ∀ (b : Nat) (sp : Nat → Bool) (hd : Bool),DataW.TrodAll enc P W' b sp hd f.resultTypes.toList ((Value.bool true).resultList f.resultTypes.size) (s.fn H (ds ++ [])).results [] := fun b sp hd => by
  rw [hds,hfn,hrt]
  exact trodAll_cons_mk (shut_bool htb _) trodAll_mk0
 have hvars : ∀ sp : Nat → Bool,DataW.TrodVars enc P W' sp s.vars (s.fn H (ds ++ [])).vars [] := fun sp => by
  rw [hds,hfn,hv];rfl
 refine ⟨ds,[],p ++ [],[],p,[],hW',hres _ _ _,hargs _ (fun x hx => hold x (by simp [hx])),hvars _,World.keptBut_mono (fun x hx => ⟨hx,Or.inr (by simpa using hx)⟩) (hb.frame (· ∈ p ++ [])),fun _ => ?_⟩
 refine ⟨ok_one hrt rfl (okWide_bool_mk htb _),_,_,([] ++ p) ++ [],⟨[] ++ p,[],trodAll_append (hargs _ (fun _ _ => rfl)) (hres _ _ _),hvars _,rfl,?_,?_⟩,?_⟩
 ·intro b off hp
  have hb' : b < W.heap.size := hlt (.cell b off) (by simpa using hp)
  rw [hb.frozen (p := ⟨b,off,none⟩) hb']
  exact hz b off (by simpa using hp)
 ·intro ha;cases ha
 ·intro x hx _
  simpa using hx
end
section
theorem atom_small {a : PAtom} : a.name.size ≤ sizeAtom a ∧ a.terms.length ≤ sizeAtom a ∧ ∀ t ∈ a.terms,t.name.size ≤ sizeAtom a := by
 have h2 := sizeL_le (size := sizeTerm) openTerm.one a.terms
 refine ⟨by simp only [sizeAtom,sizeStr];omega,by simp only [sizeAtom];omega,fun t ht => ?_⟩
 have h1 := sizeL_mem (size := sizeTerm) ht
 have h3 : t.name.size ≤ sizeTerm t := by simp only [sizeTerm,sizeStr];omega
 simp only [sizeAtom];omega
theorem rules_small {p : List PRule} (h : sizeL sizeRule p ≤ 1048576) : p.length ≤ 1048576 ∧ (∀ r ∈ p,RuleSmall r) ∧ ∀ r ∈ p,NameSmall r := by
 have l := sizeL_le (size := sizeRule) openRule.one p
 have hr : ∀ r ∈ p,sizeAtom r.head ≤ 1048576 ∧ sizeL sizeAtom r.body ≤ 1048576 := fun r hr => by
  have h1 := sizeL_mem (size := sizeRule) hr
  simp only [sizeRule] at h1
  constructor <;> omega
 have hb : ∀ r ∈ p,∀ a ∈ r.body,sizeAtom a ≤ 1048576 := fun r h1 a ha => by
  have h2 := sizeL_mem (size := sizeAtom) ha
  have h3 := (hr r h1).2
  omega
 refine ⟨by omega,fun r h1 => ?_,fun r h1 => ?_⟩
 ·have h2 := (hr r h1).1
  have h3 := sizeL_le (size := sizeAtom) openAtom.one r.body
  have h4 := (hr r h1).2
  obtain ⟨g1,g2,g3⟩ := atom_small (a := r.head)
  refine ⟨by omega,fun t ht => by have := g3 t ht;omega,by omega,fun a ha => ?_,fun a ha t ht => ?_⟩
  ·have := hb r h1 a ha
   have := (atom_small (a := a)).2.1
   omega
  ·have := hb r h1 a ha
   have := (atom_small (a := a)).2.2 t ht
   omega
 ·have h2 := (hr r h1).1
  have := (atom_small (a := r.head)).1
  refine ⟨by omega,fun a ha => ?_⟩
  have := hb r h1 a ha
  have := (atom_small (a := a)).1
  omega
end
section
open Go.RowKit Go.ChangeShapes Go.WideShapes Go.Deep
theorem naiveReads {S S3 : Nat → Prop} (p : List PRule) (v fv : Value) (st : List Int) (q : Int × Int) (l : List PFact) (w : World) (hS : StrataIs p st q) (h : RdRules S w v p) (hf : RdFacts S3 w fv l)
 (n1 : p.length ≤ 1048576) (n2 : ∀ r ∈ p,RuleSmall r) (n3 : ∀ r ∈ p,NameSmall r) (n4 : l.length ≤ 1048576) (n5 : ∀ x ∈ l,x.args.length ≤ 1048576) :
 Calls Tryz.prog 11 #[v,fv] w fun e w' => (∃ a c,e = .returned (.tuple #[.slice a (naiveP st q.1 p l).1.length c,.int .i64 (naiveP st q.1 p l).2]) ∧ RdFacts (fun _ => True) w' (.slice a (naiveP st q.1 p l).1.length c) (naiveP st q.1 p l).1) ∧ Below w.heap.size w w' :=
 naiveKnown rfl hS rfl h hf n1 n2 n3 n4 n5
end
section
open Go.RowKit
def smallN : Nat → PProof → Prop
 | 0,_ => True
 | n + 1,x => x.fact.args.length ≤ 1048576 ∧ x.kids.length ≤ 1048576 ∧ ∀ k ∈ x.kids,smallN n k
theorem oneCalls {p : List PRule} {told M : List PFact} (hpl : p.length ≤ 1048576) (hpt : ∀ r ∈ p,r.head.terms.length ≤ 4 ∧ r.body.length ≤ 5 ∧ ∀ a ∈ r.body,a.terms.length ≤ 4)
 (ut : Rising told) (ut1 : told.length ≤ 1073741824) (ut2 : ∀ x ∈ told,x.args.length ≤ 1073741824) (um : Rising M) (um1 : M.length ≤ 1073741824) (um2 : ∀ x ∈ M,x.args.length ≤ 1073741824) :
 ∀ (n : Nat) {S S2 S3 S4 : Nat → Prop} (C b off : Nat) (pv tv mv av kv : Value) (x : PProof) (w : World),Blk w C 43 #[pv,tv,mv] → RdRules S w pv p → RdFacts S2 w tv told → RdFacts S3 w mv M → PrfAt w b off x.fact x.rule av kv → RdProofs n S4 w kv x.kids → smallN (n + 1) x →
  Calls Tryz.prog 12 #[.pointer (some ⟨C,0,none⟩),.pointer (some ⟨b,off,none⟩)] w fun e w' => e = .returned (.int .i64 (oneN p told M (n + 1) x)) ∧ Below w.heap.size w w'
 | 0,S,S2,S3,S4,C,b,off,pv,tv,mv,av,kv,x,w,hC,hp,ht,hm,hX,hk,hs => by
  obtain ⟨ka,kc,rfl,-,-,-⟩ := id hk.form
  have h0 := hk.zero
  obtain ⟨f,rl,ks⟩ := x
  exact oneWalk p told M (oneN p told M 0) C b off pv tv mv av ka kc f rl ks w hC hp ht hm hX (fun i k hik => by have h1 : ks = [] := h0;rw [h1] at hik;simp at hik) hs.1 hs.2.1 hpl hpt ut ut1 ut2 um um1 um2
 | n + 1,S,S2,S3,S4,C,b,off,pv,tv,mv,av,kv,x,w,hC,hp,ht,hm,hX,hk,hs => by
  obtain ⟨ka,kc,rfl,-,-,-⟩ := id hk.form
  obtain ⟨f,rl,ks⟩ := x
  refine oneWalk p told M (oneN p told M (n + 1)) C b off pv tv mv av ka kc f rl ks w hC hp ht hm hX (fun i k hik => ?_) hs.1 hs.2.1 hpl hpt ut ut1 ut2 um um1 um2
  obtain ⟨b',off',av',kv',ha,-,hb,d0,d1,d2,d3,hra,hrk⟩ := RdProofs.at hk hik
  have hks := hs.2.2 k (ζm hik)
  have hP : PrfAt w b' (off' + i * 4) k.fact k.rule av' kv' := ⟨hb,d0,d1,d2,d3,hra.more ζS (fun _ _ _ => trivial)⟩
  exact ⟨b',off',av',kv',ha,hP,hks.1,fun W hW => oneCalls hpl hpt ut ut1 ut2 um um1 um2 n C b' (off' + i * 4) pv tv mv av' kv' k W (hC.below hW hC.lt) (hp.up hW) (RdFacts.up ht hW) (RdFacts.up hm hW) (hP.up hW) (RdSlice.agree (RProofN.steady n) (Below.agree hW) hrk) hks⟩
theorem rules_terms {p : List PRule} (h : ∀ r ∈ p,ruleBad r = 0) : ∀ r ∈ p,r.head.terms.length ≤ 4 ∧ r.body.length ≤ 5 ∧ ∀ a ∈ r.body,a.terms.length ≤ 4 := fun r hr => by
 obtain ⟨h1,-,h3,-⟩ := ruleBad_zero (h r hr)
 exact ⟨(atomBad_zero h1).2.1,body_atoms h3,fun a ha => body_terms h3 ha⟩
theorem check_err {st : List Int} {q : Int} {p : List PRule} {told : List PFact} {n : Nat} {x : PProof} (h : (naiveP st q p told).2 ≠ 0) : checkN st q p told n x = (naiveP st q p told).2 := by unfold checkN;rw [if_pos h]
theorem check_much {st : List Int} {q : Int} {p : List PRule} {told : List PFact} {n : Nat} {x : PProof} (h : (naiveP st q p told).2 = 0) (h2 : 400 < cntN n x ∨ 60 < depN n x) : checkN st q p told n x = 4 := by unfold checkN;rw [if_neg (by simpa using h),if_pos h2]
theorem check_one {st : List Int} {q : Int} {p : List PRule} {told : List PFact} {n : Nat} {x : PProof} (h : (naiveP st q p told).2 = 0) (h2 : ¬ (400 < cntN n x ∨ 60 < depN n x)) : checkN st q p told n x = oneN p told (naiveP st q p told).1 n x := by unfold checkN;rw [if_neg (by simpa using h),if_neg h2]
set_option maxRecDepth 100000 in
set_option maxHeartbeats 0 in
theorem checkCalls {S S3 S4 S5 : Nat → Prop} (p : List PRule) (v fv : Value) (st : List Int) (q : Int × Int) (l : List PFact) (n : Nat) (x : PProof) (av kv : Value) (w : World) (hS : StrataIs p st q) (h : RdRules S w v p) (hf : RdFacts S3 w fv l) (ha : RdStrs S4 w av x.fact.args) (hk : RdProofs n S5 w kv x.kids) (hs : smallN (n + 1) x) (hc : cntN (n + 1) x ≤ 1048576)
 (n1 : p.length ≤ 1048576) (n2 : ∀ r ∈ p,RuleSmall r) (n3 : ∀ r ∈ p,NameSmall r) (n4 : l.length ≤ 1048576) (n5 : ∀ x ∈ l,x.args.length ≤ 1048576) :
 Calls Tryz.prog 6 #[v,fv,.agg #[.string x.fact.name,av,.int .i64 x.rule,kv]] w fun e w' => e = .returned (.int .i64 (checkN st q.1 p l (n + 1) x)) ∧ Below w.heap.size w w' := by
 obtain ⟨a,c,rfl,-,-,-⟩ := id h.form
 obtain ⟨fa,fc,rfl,-,-,-⟩ := id hf.form
 obtain ⟨aa,ac,rfl,-,-,-⟩ := id ha.form
 obtain ⟨ka,kc,rfl,-,-,-⟩ := id hk.form
 obtain ⟨W0,hW0⟩ : ∃ W0 : World,w.alloc (.cells #[.string x.fact.name,.slice aa x.fact.args.length ac,.int .i64 x.rule,.slice ka x.kids.length kc] 30) = W0 := ⟨_,rfl⟩
 have HB0 := ζ (show Below w.heap.size w W0 by subst hW0;exact (ζb _ _).alloc (ζn _) _)
 have HK0 := ζ (show Blk W0 w.heap.size 30 #[.string x.fact.name,.slice aa x.fact.args.length ac,.int .i64 x.rule,.slice ka x.kids.length kc] by subst hW0;exact Blk.new w _ _)
 have KN := ζ (naiveReads p (.slice a p.length c) (.slice fa l.length fc) st q l W0 hS (h.up HB0.out) (RdFacts.up hf HB0.out) n1 n2 n3 n4 n5)
 have H := ζ h
 have HF := ζ hf
 have HA := ζ ha
 have HKD := ζ hk
 have HSM := ζ hs
 have HFO := ζ (naive_follows hS (l := l))
 have N5 := ζ n5
 have E1 := ζ (check_err (st := st) (q := q.1) (p := p) (told := l) (n := n + 1) (x := x))
 have E2 := ζ (check_much (st := st) (q := q.1) (p := p) (told := l) (n := n + 1) (x := x))
 have E3 := ζ (check_one (st := st) (q := q.1) (p := p) (told := l) (n := n + 1) (x := x))
 generalize checkN st q.1 p l (n + 1) x = R at *
 clear h hf ha hk hs n2 n3 n5 hS
 generalize naiveP st q.1 p l = r at *
 obtain ⟨m,e0⟩ := r
 dsimp only at *
 by_cases he : e0 = 0
 case neg =>
  have g1 : (e0 != 0) = true := by simpa using he
  have HE := ζ (E1.out he)
  clear he E1 E2 E3 HFO
  go_enter Tryz.func6,Tryz.ntmps6
  go_wp2_with (go_at_call 11;refine (KN.out).mono ?_;rintro e w2 ⟨⟨a2,c2,rfl,hr2⟩,hb2⟩;have HB2 := ζ (HB0.out.trans (hb2.mono HB0.out.size));clear hr2 hb2)
  go_ret
  refine ⟨?_,HB2.out⟩
  rw [HE.out]
  rfl
 subst he
 obtain ⟨hF,hset,hR⟩ := HFO.out rfl
 have HG := ζ (good_of hset)
 have HFL := ζ hF
 have HPT := ζ (rules_terms hR)
 clear hF hset hR HFO E1
 have KZ := ζ (fun W (hW : Below w.heap.size w W) => sizeCalls n x (.string x.fact.name) (.slice aa x.fact.args.length ac) (.slice ka x.kids.length kc) x.rule W (RdSlice.agree (RProofN.steady n) (Below.agree hW) HKD.out) hc)
 generalize hcn : cntN (n + 1) x = cn at *
 generalize hdn : depN (n + 1) x = dn at *
 by_cases hbig : 400 < cn ∨ 60 < dn
 ·have HE := ζ (E2.out rfl hbig)
  have hcs : (400 : Int) < (cn : Int) ∨ ¬ (400 : Int) < (cn : Int) ∧ (60 : Int) < (dn : Int) := by omega
  clear hbig E2 E3 hcn hdn
  rcases hcs with h1 | ⟨h1,h2⟩
  all_goals
   go_enter Tryz.func6,Tryz.ntmps6
   go_wp2_with (first
    | (go_at_call 4;have hh := HB2.out;clear hh;refine (KZ.out _ HB2.out).mono ?_;rintro e w3 ⟨rfl,hb3⟩;have HB3 := ζ (HB2.out.trans (hb3.mono HB2.out.size));clear hb3)
    | (go_at_call 11;refine (KN.out).mono ?_;rintro e w2 ⟨⟨a2,c2,rfl,hr2⟩,hb2⟩;have HB2 := ζ (HB0.out.trans (hb2.mono HB0.out.size));have hk2 := HK0.out.below hb2 HK0.out.lt;have k0 := hk2.cell 0;have k1 := hk2.cell 1;have k2 := hk2.cell 2;have k3 := hk2.cell 3;simp only [ζc] at k0 k1 k2 k3;clear hr2 hb2 hk2))
   go_ret
   refine ⟨?_,HB3.out⟩
   rw [HE.out]
   rfl
 have HE := ζ (E3.out rfl hbig)
 have h1 : ¬ (400 : Int) < (cn : Int) := by omega
 have h2 : ¬ (60 : Int) < (dn : Int) := by omega
 clear hbig E2 E3 hcn hdn
 go_enter Tryz.func6,Tryz.ntmps6
 go_wp2_with (first
  | (go_at_call 12;have hh := HB3.out;clear hh;refine (oneCalls n1 HPT.out HG.out.rise (Nat.le_trans HG.out.len (by decide)) (fun z hz => Nat.le_trans (N5.out z hz) (by decide)) HFL.out.rise (Nat.le_trans HFL.out.len (by decide)) (fun z hz => by have := (wrongF_zero.1 (HFL.out.good z hz)).2.1;omega) n w3.heap.size w.heap.size 0 _ _ _ _ _ x _ (Blk.new w3 _ _) (H.out.up HB4.out) (RdFacts.up HF.out HB4.out) HR4.out HX4.out (RdSlice.agree (RProofN.steady n) (Below.agree HB4.out) HKD.out) HSM.out).mono ?_;rintro e w5 ⟨rfl,hb5⟩;have HB5 := ζ (HB4.out.trans (hb5.mono HB4.out.size));clear hb5)
  | (go_at_call 4;have hh := HB2.out;clear hh;refine (KZ.out _ HB2.out).mono ?_;rintro e w3 ⟨rfl,hb3⟩;have HB3 := ζ (HB2.out.trans (hb3.mono HB2.out.size));have HK3 := ζ (HK2.out.below hb3 HK2.out.lt);have HB4 := ζ (HB3.out.alloc HB3.out.size (.cells #[.slice a p.length c,.slice fa l.length fc,.slice a2 m.length c2] 43));have HR4 := ζ (RdFacts.up (RdFacts.up HR2.out hb3) ((ζb w3.heap.size w3).alloc (ζn _) (.cells #[.slice a p.length c,.slice fa l.length fc,.slice a2 m.length c2] 43)));have HK4 := HK3.out.alloc (.cells #[.slice a p.length c,.slice fa l.length fc,.slice a2 m.length c2] 43);have HX4 := ζ (show PrfAt (w3.alloc (.cells #[.slice a p.length c,.slice fa l.length fc,.slice a2 m.length c2] 43)) w.heap.size 0 x.fact x.rule (.slice aa x.fact.args.length ac) (.slice ka x.kids.length kc) from ⟨HK4.lt,HK4.cell 0,HK4.cell 1,HK4.cell 2,HK4.cell 3,HA.out.up HB4.out⟩);clear hb3 HK4)
  | (go_at_call 11;refine (KN.out).mono ?_;rintro e w2 ⟨⟨a2,c2,rfl,hr2⟩,hb2⟩;have HB2 := ζ (HB0.out.trans (hb2.mono HB0.out.size));have HR2 := ζ hr2;have HK2 := ζ (HK0.out.below hb2 HK0.out.lt);have k0 := HK2.out.cell 0;have k1 := HK2.out.cell 1;have k2 := HK2.out.cell 2;have k3 := HK2.out.cell 3;simp only [ζc] at k0 k1 k2 k3;clear hr2 hb2))
 go_ret
 refine ⟨?_,HB5.out⟩
 rw [HE.out]
 rfl
end
section
def subT (b : Binds) (t : PTerm) : PTerm := if t.var then (match getB t.name b with
 | some n => ⟨false,n⟩
 | none => t) else t
def subA (b : Binds) (a : PAtom) : PAtom := ⟨a.neg,a.name,a.terms.map (subT b)⟩
def subBody (b : Binds) (l : List PAtom) : List PAtom := l.map (subA b)
def kidsOf (body : List PAtom) (b : Binds) : List PFact := body.filterMap fun a => if a.neg then none else fillP a b
def ageOf (age : Str → Option Int) (f : PFact) : Int := (age (keyP f)).getD 0
def olderP (age : Str → Option Int) (f k : PFact) : Bool := decide (ageOf age k < ageOf age f)
def ruleG (age : Str → Option Int) (M : List PFact) (r : PRule) (f : PFact) : Option (List PFact) := match meetP r.head f [] with
 | none => none
 | some s => if (allP (subBody s r.body) M).2 ≠ 0 then none else ((allP (subBody s r.body) M).1.find? fun b => (kidsOf (subBody s r.body) b).all (olderP age f)).map (kidsOf (subBody s r.body))
def pickRule (age : Str → Option Int) (M : List PFact) (f : PFact) : Nat → List PRule → Option (Nat × List PFact)
 | _,[] => none
 | i,r :: p => match ruleG age M r f with
  | some ks => some (i,ks)
  | none => pickRule age M f (i + 1) p
def kidsAcc (F : Nat → PFact → Option PProof × Nat) : List PProof → Nat → List PFact → Option (List PProof) × Nat
 | xs,s,[] => (some xs,s)
 | xs,s,k :: l => match F s k with
  | (none,s') => (none,s')
  | (some x,s') => kidsAcc F (xs ++ [x]) s' l
def findN (p : List PRule) (told M : List PFact) (age : Str → Option Int) : Nat → Nat → PFact → Nat → Option PProof × Nat
 | 0,s,_,_ => (none,s)
 | n + 1,s,f,d => if 400 < s + 1 ∨ 60 < d then (none,s + 1) else if memF f told then (some (.mk f (-1) []),s + 1) else match pickRule age M f 0 p with
  | none => (none,s + 1)
  | some (i,ks) => match kidsAcc (fun s k => findN p told M age n s k (d + 1)) [] (s + 1) ks with
   | (none,s') => (none,s')
   | (some xs,s') => (some (.mk f i xs),s')
end
end Go.Proofs.YtdngkcieckejoaaGreat
