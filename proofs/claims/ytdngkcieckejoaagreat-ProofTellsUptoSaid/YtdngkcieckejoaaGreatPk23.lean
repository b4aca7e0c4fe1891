/-
  THE TEXTS EnvV, RcAge, one behind the other.
-/
import Derived.Test.YtdngkcieckejoaaGreatPk5
import Derived.Test.YtdngkcieckejoaaGreatPk15
import Derived.Test.YtdngkcieckejoaaGreatPk16
import Derived.Test.YtdngkcieckejoaaGreatPk20
import Derived.Test.YtdngkcieckejoaaGreatPk22
namespace Go.Proofs.YtdngkcieckejoaaGreat
section
open Go.RowKit Go.Maps
theorem strataRefT {S : Nat → Prop} {p : List PRule} {v : Value} {st : List Int} {q : Int × Int} {w : World} (hS : StrataIs p st q) (h : RdRules S w v p) (n1 : p.length ≤ 1048576) (n2 : ∀ r ∈ p,RuleSmall r) (n3 : ∀ r ∈ p,NameSmall r) :
 Calls Tryz.prog 45 #[v] w fun e w' => Below w.heap.size w w' ∧ ∃ a c,e = .returned (.tuple #[.slice a st.length c,.agg #[.int .i64 q.1,.int .i64 q.2]]) ∧ RdInts (fun _ => True) w' (.slice a st.length c) st :=
 (strataRef p v w h n1 n2 n3).mono fun e w' ⟨hb,v',l',q',he,hr,hs⟩ => by
  obtain ⟨rfl,rfl⟩ := hs.unique hS
  obtain ⟨a,c,rfl,-,-,-⟩ := id hr.form
  exact ⟨hb,a,c,he,hr.more RInt.steady (fun _ _ _ => trivial)⟩
theorem good_smallF {l : List PFact} (h : ∀ x ∈ l,wrongF x = 0) : FactsSmall l := fun x hx => by
 obtain ⟨h1,h2,h3⟩ := wrongF_zero.1 (h x hx)
 have := named_size h1
 exact ⟨by omega,by omega,fun a ha => by have := named_size (h3 a ha);omega⟩
def RList : Reader (List PFact) := fun S w cs l => ∃ v,cs = [v] ∧ RdFacts S w v l
theorem RList.steady : Steady RList :=
 ⟨fun h ⟨v,hc,r⟩ => ⟨v,hc,r.agree ζF h⟩,fun h ⟨v,hc,r⟩ => ⟨v,hc,r.more ζF h⟩⟩
abbrev RdLists := RdSlice 1 RList
theorem RdLists.at {S : Nat → Prop} {w : World} {a : Option Addr} {n cap : Nat} {l : List (List PFact)} (h : RdLists S w (.slice a n cap) l) {i : Nat} {x : List PFact} (hx : l[i]? = some x) :
 ∃ b off v,a = some ⟨b,off,none⟩ ∧ S b ∧ b < w.heap.size ∧ w.cell? ⟨b,off + i,none⟩ = some v ∧ RdFacts S w v x := by
 obtain ⟨a',cap',hv,h1,h2,h0,h3⟩ := h
 obtain ⟨b,off,cs,ha,hS,hb,hk,hc,⟨v,rfl,hq⟩⟩ := h3 i x hx
 injection hv with e1 e2 e3
 subst e1
 refine ⟨b,off,v,ha,hS,hb,?_,hq⟩
 have := hc 0 _ rfl
 simpa using this
theorem rowLists : RowT Tryz.prog 66 24 1 := RowT.mk' (b := 24) (z := .slice none 0 0) Tryz.underlying66 (by kernel_rfl) (by omega) rfl (by omega)
theorem Owned.elemL {B : Nat} {e : TypeId} {S : Nat → Prop} {w : World} {a : Option Addr} {n c : Nat} {zs : List (List PFact)} (h : Owned 1 RList B e S w (.slice a n c) zs) {i : Nat} {x : List PFact} (hx : zs[i]? = some x) :
 ∃ g v,a = some ⟨g,0,none⟩ ∧ B ≤ g ∧ g < w.heap.size ∧ w.cell? ⟨g,i,none⟩ = some v ∧ RdFacts (fun q => S q ∧ q ≠ g) w v x := by
 generalize hv : Value.slice a n c = v0 at h
 obtain ⟨css,h1,h2,ho,h3⟩ := h
 have hi := (List.getElem?_eq_some_iff.1 hx).1
 rcases ho.2 with ⟨rfl,h0⟩ | ⟨g,cap,cur,rfl,hb,hgg,hnc,hcm,hcs,htake⟩
 ·exfalso;omega
 ·injection hv with e1 e2 e3
  obtain ⟨cs,hcss⟩ : ∃ cs,css[i]? = some cs := ⟨_,ζe (by omega)⟩
  obtain ⟨v,rfl,hr⟩ := h3 i cs x hcss hx
  refine ⟨g,v,e1,hb,(Array.getElem?_eq_some_iff.1 hgg).1,?_,hr.more ζF (fun q hq _ => ⟨hq.1,fun e => hq.2 (by rw [e];rfl)⟩)⟩
  have := ho.cells (g := g) rfl (i * 1 + 0) v (flatten_get css h2 i [v] 0 v hcss rfl)
  have hadd : (⟨g,0,none⟩ : Addr).add (i * 1 + 0) = ⟨g,i,none⟩ := by unfold Addr.add;split <;> simp_all
  rwa [hadd] at this
def sizeV : Value → Nat
 | .slice _ n _ => n
 | _ => 0
def RoundsPost (r : List PFact × Int) (w : World) (e : Ending) (w' : World) : Prop :=
 Below w.heap.size w w' ∧ ((∃ n,r = ([],n) ∧ n ≠ 0 ∧ e = .returned (.tuple #[.slice none 0 0,.int .i64 n])) ∨
  ∃ l,r = (l,0) ∧ ∃ (a : Option Addr) (c m : Nat) (zs : List (List PFact)),m < 1000 ∧ zs.length = m + 1 ∧ e = .returned (.tuple #[.slice a (m + 1) c,.int .i64 0]) ∧ RdLists (fun _ => True) w' (.slice a (m + 1) c) zs ∧ zs[m]? = some l)
def RoundsPostI (I : Nat → List (List PFact) → List PFact → Prop) (cn : Nat) (r : List PFact × Int) (w : World) (e : Ending) (w' : World) : Prop :=
 Below w.heap.size w w' ∧ ((∃ n,r = ([],n) ∧ n ≠ 0 ∧ e = .returned (.tuple #[.slice none 0 0,.int .i64 n])) ∨
  ∃ l,r = (l,0) ∧ ∃ (a : Option Addr) (c m : Nat) (zs : List (List PFact)),m < 1000 ∧ zs.length = m + 1 ∧ e = .returned (.tuple #[.slice a (m + 1) c,.int .i64 0]) ∧ RdLists (fun _ => True) w' (.slice a (m + 1) c) zs ∧ zs[m]? = some l ∧ ∃ n,¬ n < cn ∧ I n zs l)
theorem naive_q {st : List Int} {q : Int} {p : List PRule} {l : List PFact} (h : q ≠ 0) : naiveP st q p l = ([],q) := by unfold naiveP;rw [if_pos h]
theorem naive_f {st : List Int} {p : List PRule} {l : List PFact} (h : (factsBad p l).1 ≠ 0) : naiveP st 0 p l = ([],(factsBad p l).1) := by unfold naiveP;rw [if_neg (by simp),if_pos h]
theorem naive_r {st : List Int} {p : List PRule} {l : List PFact} (h : (factsBad p l).1 = 0) : naiveP st 0 p l = runP (p.zip st) (countP st).toNat 0 l := by unfold naiveP;rw [if_neg (by simp),if_neg (by simpa using h)]
attribute [local go_sem ↓] Go.wp_at_zero Go.wp_at_succ
set_option maxRecDepth 100000 in
set_option maxHeartbeats 0 in
theorem roundsRefI (I : Nat → List (List PFact) → List PFact → Prop) {S S2 : Nat → Prop} (p : List PRule) (v fv : Value) (st : List Int) (q : Int × Int) (l : List PFact) (w : World) (hS : StrataIs p st q) (h : RdRules S w v p) (hf : RdFacts S2 w fv l)
 (n1 : p.length ≤ 1048576) (n2 : ∀ r ∈ p,RuleSmall r) (n3 : ∀ r ∈ p,NameSmall r) (n4 : l.length ≤ 1048576) (n5 : FactsSmall l) (hI : q.1 = 0 → (factsBad p l).1 = 0 → RInv I (p.zip st) (countP st).toNat l) :
 Calls Tryz.prog 24 #[v,fv] w (RoundsPostI I (countP st).toNat (naiveP st q.1 p l) w) := by
 obtain ⟨a,c,rfl,-,-,-⟩ := id h.form
 obtain ⟨fa,fc,rfl,-,-,-⟩ := id hf.form
 have H := ζ h
 have HFA := ζ (RdFacts.anyS hf)
 have N2 := ζ n2
 have N5 := ζ n5
 have HS := ζ hS
 have KS := ζ (strataRefT hS h n1 n2 n3)
 clear h hf n2 n3 n5 hS
 obtain ⟨q1,q2⟩ := q
 dsimp only at *
 by_cases hq : q1 = 0
 case neg =>
  have g1 : (q1 != 0) = true := by simpa using hq
  have HE := ζ (naive_q (st := st) (p := p) (l := l) hq)
  have HQ := ζ hq
  clear hq
  go_enter Tryz.func24,Tryz.ntmps24
  go_wp2_with (go_at_call 45;refine (KS.out).mono ?_;rintro e w1 ⟨hb1,a1,c1,rfl,hr1⟩;have HB1 := ζ (hb1.alloc hb1.size (.cells #[.int .i64 q1,.int .i64 q2] 49));have HK1 := ζ ((Blk.new w1 49 #[.int .i64 q1,.int .i64 q2]).drew);clear hb1 hr1)
  generalize w1.alloc (.cells #[.int .i64 q1,.int .i64 q2] 49) = w2 at *
  have k0 := HK1.out.cell 0
  simp at k0
  go_region_held3 (fun w' => w'.cell? ⟨w1.heap.size,0,none⟩ = some (.int .i64 q1)) (first | go_keep) (fail)
  go_wp2
  refine bodyPost_ret (v := .tuple #[.slice none 0 0,.int .i64 q1]) (by simp [results,Tryz.results24,go_sem]) rfl ?_
  exact ⟨HB1.out.drew,.inl ⟨q1,HE.out,HQ.out,rfl⟩⟩
 obtain ⟨hsl,h16,h5,hz16,hc0,hc17⟩ := strata_bd HS.out hq
 subst hq
 obtain ⟨hru,hwr,-⟩ := strata_zero HS.out rfl
 have HAR := ζ (wrongP_iff.1 hwr).2.2
 have HRU := ζ hru
 have HZB := ζ (fun r hr => (ruleBad_zero (hru r hr)).2.2.1)
 have HZ := ζ hz16
 have HSL := ζ hsl
 have KF := ζ (fun W (hW : Below w.heap.size w W) => factsRef p (.slice a p.length c) (.slice fa l.length fc) l W (H.out.up hW) (HFA.out.up hW) HAR.out n1 N2.out n4 N5.out)
 clear hru hwr hz16 hsl h5
 by_cases hf : (factsBad p l).1 = 0
 case neg =>
  have g1 : ((factsBad p l).1 != 0) = true := by simpa using hf
  have HE := ζ (naive_f (st := st) hf)
  have HQ := ζ hf
  clear hf
  generalize factsBad p l = f at *
  obtain ⟨f1,f2⟩ := f
  dsimp only at *
  go_enter Tryz.func24,Tryz.ntmps24
  go_wp2_with (first
   | (go_at_call 46;have hh := HB1.out;clear hh;refine (KF.out _ HB1.out).mono ?_;rintro e w2 ⟨rfl,hb2⟩;have HB2 := ζ ((HB1.out.trans (hb2.mono (Below.size HB1.out))).alloc (Nat.le_trans (Below.size HB1.out) hb2.size) (.cells #[.int .i64 f1,.int .i64 f2] 49));have HK2 := ζ ((Blk.new w2 49 #[.int .i64 f1,.int .i64 f2]).drew);clear hb2)
   | (go_at_call 45;refine (KS.out).mono ?_;rintro e w1 ⟨hb1,a1,c1,rfl,hr1⟩;have HB1 := ζ (hb1.alloc hb1.size (.cells #[.int .i64 0,.int .i64 q2] 49));clear hb1 hr1))
  generalize w2.alloc (.cells #[.int .i64 f1,.int .i64 f2] 49) = w3 at *
  have k0 := HK2.out.cell 0
  simp at k0
  go_region_held3 (fun w' => w'.cell? ⟨w2.heap.size,0,none⟩ = some (.int .i64 f1)) (first | go_keep) (fail)
  go_wp2
  refine bodyPost_ret (v := .tuple #[.slice none 0 0,.int .i64 f1]) (by simp [results,Tryz.results24,go_sem]) rfl ?_
  exact ⟨HB2.out.drew,.inl ⟨f1,HE.out,HQ.out,rfl⟩⟩
 have hgl := good_of (factsBad_set hf)
 have hl2 := hgl.len
 obtain ⟨cn,hcn⟩ : ∃ cn : Nat,countP st = cn := ⟨(countP st).toNat,by omega⟩
 have HT := ζ (show Going (p.zip st) cn 0 l (naiveP st 0 p l) by
  rw [naive_r hf]
  have h1 := going_run (ps := p.zip st) (cnt := (countP st).toNat) (i := 0) (cur := l)
  rw [show (countP st).toNat + 0 = cn by omega] at h1
  rw [show (countP st).toNat = cn by omega] at h1 ⊢
  exact h1)
 have KC := ζ (fun W sv (h1 : RdInts (fun _ => True) W sv st) => (countRef sv st W h1 (by rw [HSL.out];omega) (fun z hz => by have := HZ.out z hz;omega)))
 rw [hcn] at KC
 rw [hf] at KF
 have hcnb : cn ≤ 17 := by omega
 have HGL := ζ hgl
 have hcn2 : (countP st).toNat = cn := by omega
 have hI1 := hI rfl hf
 rw [hcn2] at hI1 ⊢
 have HII := ζ hI1
 clear hI hI1 hcn2
 generalize naiveP st 0 p l = T at *
 generalize (factsBad p l).2 = f2 at *
 clear hf hgl hc0 hc17 hcn
 go_enter Tryz.func24,Tryz.ntmps24
 go_wp2_with (first
  | (go_at_call 46;have hh := HB1.out;clear hh;refine (KF.out _ HB1.out).mono ?_;rintro e w2 ⟨rfl,hb2⟩;have HB2 := ζ ((HB1.out.trans (hb2.mono (Below.size HB1.out))).alloc (Nat.le_trans (Below.size HB1.out) hb2.size) (.cells #[.int .i64 0,.int .i64 f2] 49));have HI2 := ζ (HI1.out.up (hb2.alloc hb2.size (.cells #[.int .i64 0,.int .i64 f2] 49)));clear hb2)
  | (go_at_call 45;refine (KS.out).mono ?_;rintro e w1 ⟨hb1,a1,c1,rfl,hr1⟩;have HB1 := ζ (hb1.alloc hb1.size (.cells #[.int .i64 0,.int .i64 q2] 49));have HI1 := ζ (hr1.up ((ζb _ _).alloc (ζn _) (.cells #[.int .i64 0,.int .i64 q2] 49)));clear hb1 hr1))
 have hse : (w2.alloc (.cells #[.int .i64 0,.int .i64 f2] 49)).heap.size = w2.heap.size + 1 := by simp
 generalize hW2 : w2.alloc (.cells #[.int .i64 0,.int .i64 f2] 49) = W2 at *
 clear hW2
 have hwW := Below.size HB2.out
 have HOW := ζ (Owned.lit (k := 1) (R := RList) (B := W2.heap.size) (e := 24) (S := fun _ => True) (w := W2) (l := [l]) [[.slice fa l.length fc]] #[.slice fa l.length fc] rfl (by simp) (by simp) rfl (ζn _) (by simp [maxLen]) (fun i c z hc hz => by
  rcases i with _ | i
  ·simp at hc hz
   subst hc hz
   exact ⟨_,rfl,(HFA.out.more (S' := fun q => True ∧ some q ≠ some W2.heap.size) ζF (fun q _ hq => ⟨trivial,fun e => by injection e with e;omega⟩)).agree ζF (Below.agree (HB2.out.alloc hwW _))⟩
  ·simp at hc))
 have HB3 := ζ ((ζb W2.heap.size W2).alloc (ζn _) (.cells #[.slice fa l.length fc] 24))
 have HZ0 : Hid ([l][0]? = some l) := ζ rfl
 have HOW2 : Hid (Owned 1 RList W2.heap.size 24 (fun _ => True) (W2.alloc (.cells #[.slice fa l.length fc] 24)) (.slice (some ⟨w2.heap.size + 1,0,none⟩) (0 + 1) 1) [l]) := ζ (by have h := HOW.out;rw [hse] at h ⊢;exact h)
 clear HOW hse
 generalize hW3 : W2.alloc (.cells #[.slice fa l.length fc] 24) = W3 at *
 clear hW3
 go_loopw [10,9] (fun i v wx => ∃ (n m : Nat) (zs : List (List PFact)) (cur : List PFact) (za : Option Addr) (zc : Nat),i = .int .i64 n ∧ n ≤ cn ∧ v = .slice za (m + 1) zc ∧ zs.length = m + 1 ∧ m ≤ n + cur.length ∧ Hid (Good cur) ∧ Hid (zs[m]? = some cur) ∧ Hid (Owned 1 RList W2.heap.size 24 (fun _ => True) wx (.slice za (m + 1) zc) zs) ∧ Hid (Below W2.heap.size W2 wx) ∧ Hid (Going (p.zip st) cn n cur T) ∧ Hid (I n zs cur)) (fun i v _ => 400 - sizeV v)
 case atStart => exact ⟨0,0,[l],l,_,_,rfl,Nat.zero_le _,rfl,rfl,Nat.zero_le _,HGL,HZ0,HOW2,HB3,HT,ζ HII.out.start⟩
 case round =>
  clear HZ0 HOW2 HB3 HT HGL
  obtain ⟨n,m,zs,cur,za,zc,rfl,hn,rfl,hzl,hmn,HG,HZ1,HO,HBR,HT,HJ⟩ := hrel
  have HB := ζ (HB2.out.trans (HBR.out.mono hwW))
  have HI := ζ (HI2.out.up HBR.out)
  have hrs := Below.size HBR.out
  have hcl := HG.out.len
  have hbs := Below.size HB.out
  by_cases hlt : n < cn
  case neg =>
   have HE := ζ (going_end HT.out hlt)
   have HRD := ζ ((HO.out.read RList.steady).more RList.steady (S' := fun _ => True) (fun _ _ _ => trivial))
   have hm1 : m < 1000 := by omega
   clear HO HT
   go_wp2_with (go_at_call 47;refine (KC.out _ _ HI.out).mono ?_;rintro e w6 ⟨rfl,rfl⟩)
   refine bodyPost_ret (v := .tuple #[.slice za (m + 1) zc,.int .i64 0]) (by simp [results,Tryz.results24,go_sem]) rfl ?_
   exact ⟨HB.out,.inr ⟨cur,HE.out,za,zc,m,zs,hm1,hzl,rfl,HRD.out,HZ1.out,n,hlt,HJ.out⟩⟩
  obtain ⟨g,cv,rfl,hg1,hg2,c2,hcv⟩ := Owned.elemL HO.out HZ1.out
  obtain ⟨ca,cc,rfl,-,-,-⟩ := id hcv.form
  have KO := ζ (onceRef p (.slice a p.length c) (.slice a1 st.length c1) (.slice ca cur.length cc) st (n : Int) cur wr (H.out.up HB.out) HI.out hcv HSL.out n1 N2.out HZB.out (by rw [HG.out.set]) (by omega) (good_smallF HG.out.fine))
  have hw1 : IntKind.i64.wrap ((m : Int) + 1 - 1) = (m : Int) := by rw [IntKind.wrap_i64];omega
  have hw2 : IntKind.i64.wrap (m : Int) = (m : Int) := by rw [IntKind.wrap_i64];omega
  have hw3 : IntKind.i64.wrap ((n : Int) + 1) = (n : Int) + 1 := by rw [IntKind.wrap_i64];omega
  have i1 : (0 : Int) ≤ (m : Int) := by omega
  have i2 : (m : Int) < (m : Int) + 1 := by omega
  have H1 := ζ (fun he => going_err HT.out HG.out hlt he)
  have H2 := ζ (fun he hl => going_same HT.out HG.out hlt he hl)
  have H3 := ζ (fun he hl => going_more HT.out HG.out hlt he hl)
  have H4 := ζ (fun he => once_good HG.out (ps := p.zip st) (n := (n : Int)) (fun r s hm => HRU.out r (List.of_mem_zip hm).1) HG.out he)
  have J2 := ζ (fun he hl => HII.out.stop n zs cur HJ.out HG.out hlt he hl)
  have J3 := ζ (fun he hl => HII.out.more n zs cur HJ.out HG.out hlt he hl)
  clear hcv HG HT HJ
  generalize onceP (n : Int) cur (p.zip st) cur = r at *
  obtain ⟨xl,xe⟩ := r
  dsimp only at *
  by_cases he : xe = 0
  case neg =>
   have g1 : (xe != 0) = true := by simpa using he
   have HE := ζ (H1.out he)
   have HQ := ζ he
   clear he H1 H2 H3 H4 J2 J3
   go_wp2_with (first
    | (go_at_call 48;refine (KO.out).mono ?_;rintro e w6 ⟨hb6,a6,c6,rfl,hr6⟩;have HB6 := ζ (HB.out.trans (hb6.mono hbs));clear hb6 hr6)
    | (go_at_call 47;refine (KC.out _ _ HI.out).mono ?_;rintro e w5 ⟨rfl,rfl⟩))
   refine bodyPost_ret (v := .tuple #[.slice none 0 0,.int .i64 xe]) (by simp [results,Tryz.results24,go_sem]) rfl ?_
   exact ⟨HB6.out,.inl ⟨xe,HE.out,HQ.out,rfl⟩⟩
  subst he
  have hgx := H4.out rfl
  have hxl := hgx.len
  have HGX := ζ hgx
  have HNL := ζ (show zs.length < 1099511627776 by omega)
  have HZL := ζ hzl
  have HZ7 := ζ (show (zs ++ [xl])[m + 1]? = some xl by rw [List.getElem?_append_right (by omega),hzl];simp)
  clear H1 H4 hgx hzl
  by_cases hle : xl.length = cur.length
  ·have i5 : (xl.length : Int) = (cur.length : Int) := by omega
   have HJ2 := ζ (J2.out rfl hle)
   obtain ⟨hxc,hgo⟩ := H2.out rfl hle
   have HT2 := ζ hgo
   subst hxc
   clear hgo H2 H3 hle i5 J2 J3
   go_wp2_with (first
    | (at_builtin;have hh := HO6.out;clear hh;refine wpList_append_one (B := W2.heap.size) (e := 24) (S := fun _ => True) (by rfl) _ _ 66 (by rfl) RList.steady rowLists _ zs (by rfl) (HO6.out.alloc RList.steady _) w6.heap.size 1 #[.slice a6 xl.length c6] 24 (0,0) xl (by rfl) (heap_new_at rfl) rfl (by simp [Value.oneCell']) (HRX.out _) HNL.out (by have := Below.size HBR6.out;simp;omega) ?_;intro v7 w7 hown7 hg7 hat7;obtain ⟨a7,c7,rfl,-,-,-⟩ := id (hown7.read RList.steady).form;rw [show (zs ++ [xl]).length = m + 1 + 1 by simp [HZL.out]] at hown7;have HO7 := ζ hown7;have HB7 := ζ ((HBR6.out.alloc (Below.size HBR6.out) _).grown hg7 (by have := Below.size HBR6.out;simp;omega) (fun q hq => (HO6.out.row_lt hq).1));clear hown7 hg7 hat7)
    | (go_at_call 48;refine (KO.out).mono ?_;rintro e w6 ⟨hb6,a6,c6,rfl,hr6⟩;have HBR6 := ζ (HBR.out.trans (hb6.mono hrs));have HO6 := ζ (HO.out.below RList.steady hb6);have HRX := ζ (fun o => (show RList (fun q => True ∧ some q ≠ some g) (w6.alloc o) [.slice a6 xl.length c6] xl from ⟨_,rfl,(hr6.more ζF (fun q hq _ => ⟨trivial,fun e => by injection e with e;rcases hq with h | h;(· exact h.2 e);(· omega)⟩)).agree ζF ((Agree.refl _ _).alloc o)⟩));clear hb6 hr6)
    | (go_at_call 47;refine (KC.out _ _ HI.out).mono ?_;rintro e w5 ⟨rfl,rfl⟩))
   go_roundw
   case rel => exact ⟨n + 1,m + 1,zs ++ [xl],xl,_,_,by go_num,by omega,by first | rfl | rw [HZL.out],by rw [List.length_append,HZL.out];rfl,by omega,HGX,HZ7,HO7,HB7,HT2,HJ2⟩
   case measure => have := HZL.out;simp [sizeV];omega
  ·have i5 : ¬ (xl.length : Int) = (cur.length : Int) := by omega
   have HJ2 := ζ (J3.out rfl hle)
   obtain ⟨hxc,hgo⟩ := H3.out rfl hle
   have HT2 := ζ hgo
   clear hgo H2 H3 hle J2 J3
   go_wp2_with (first
    | (at_builtin;have hh := HO6.out;clear hh;refine wpList_append_one (B := W2.heap.size) (e := 24) (S := fun _ => True) (by rfl) _ _ 66 (by rfl) RList.steady rowLists _ zs (by rfl) (HO6.out.alloc RList.steady _) w6.heap.size 1 #[.slice a6 xl.length c6] 24 (0,0) xl (by rfl) (heap_new_at rfl) rfl (by simp [Value.oneCell']) (HRX.out _) HNL.out (by have := Below.size HBR6.out;simp;omega) ?_;intro v7 w7 hown7 hg7 hat7;obtain ⟨a7,c7,rfl,-,-,-⟩ := id (hown7.read RList.steady).form;rw [show (zs ++ [xl]).length = m + 1 + 1 by simp [HZL.out]] at hown7;have HO7 := ζ hown7;have HB7 := ζ ((HBR6.out.alloc (Below.size HBR6.out) _).grown hg7 (by have := Below.size HBR6.out;simp;omega) (fun q hq => (HO6.out.row_lt hq).1));clear hown7 hg7 hat7)
    | (go_at_call 48;refine (KO.out).mono ?_;rintro e w6 ⟨hb6,a6,c6,rfl,hr6⟩;have HBR6 := ζ (HBR.out.trans (hb6.mono hrs));have HO6 := ζ (HO.out.below RList.steady hb6);have HRX := ζ (fun o => (show RList (fun q => True ∧ some q ≠ some g) (w6.alloc o) [.slice a6 xl.length c6] xl from ⟨_,rfl,(hr6.more ζF (fun q hq _ => ⟨trivial,fun e => by injection e with e;rcases hq with h | h;(· exact h.2 e);(· omega)⟩)).agree ζF ((Agree.refl _ _).alloc o)⟩));clear hb6 hr6)
    | (go_at_call 47;refine (KC.out _ _ HI.out).mono ?_;rintro e w5 ⟨rfl,rfl⟩))
   go_roundw
   case rel => exact ⟨n,m + 1,zs ++ [xl],xl,_,_,rfl,by omega,by first | rfl | rw [HZL.out],by rw [List.length_append,HZL.out];rfl,by omega,HGX,HZ7,HO7,HB7,HT2,HJ2⟩
   case measure => have := HZL.out;simp [sizeV];omega
theorem roundsRef {S S2 : Nat → Prop} (p : List PRule) (v fv : Value) (st : List Int) (q : Int × Int) (l : List PFact) (w : World) (hS : StrataIs p st q) (h : RdRules S w v p) (hf : RdFacts S2 w fv l)
 (n1 : p.length ≤ 1048576) (n2 : ∀ r ∈ p,RuleSmall r) (n3 : ∀ r ∈ p,NameSmall r) (n4 : l.length ≤ 1048576) (n5 : FactsSmall l) :
 Calls Tryz.prog 24 #[v,fv] w (RoundsPost (naiveP st q.1 p l) w) :=
 (roundsRefI (fun _ _ _ => True) p v fv st q l w hS h hf n1 n2 n3 n4 n5 (fun _ _ => ⟨trivial,fun _ _ _ _ _ _ _ _ => trivial,fun _ _ _ _ _ _ _ _ => trivial⟩)).mono fun _e _w' ⟨hb,h⟩ => ⟨hb,h.imp id fun ⟨l,h1,a,c,m,zs,h2,h3,h4,h5,h6,_⟩ => ⟨l,h1,a,c,m,zs,h2,h3,h4,h5,h6⟩⟩
set_option maxRecDepth 100000 in
set_option maxHeartbeats 0 in
theorem allRefQ {S S2 : Nat → Prop} (p : List PRule) (v fv : Value) (st : List Int) (q : Int × Int) (l : List PFact) (w : World) (hS : StrataIs p st q) (h : RdRules S w v p) (hf : RdFacts S2 w fv l)
 (n1 : p.length ≤ 1048576) (n2 : ∀ r ∈ p,RuleSmall r) (n3 : ∀ r ∈ p,NameSmall r) (n4 : l.length ≤ 1048576) (n5 : FactsSmall l) :
 Calls Tryz.prog 13 #[v,fv] w fun e w' => (∃ a c,e = .returned (.tuple #[.slice a (naiveP st q.1 p l).1.length c,.int .i64 (naiveP st q.1 p l).2]) ∧ RdFacts (fun _ => True) w' (.slice a (naiveP st q.1 p l).1.length c) (naiveP st q.1 p l).1) ∧ Below w.heap.size w w' := by
 obtain ⟨a,c,rfl,-,-,-⟩ := id h.form
 obtain ⟨fa,fc,rfl,-,-,-⟩ := id hf.form
 have K := ζ (roundsRef p _ _ st q l w hS h hf n1 n2 n3 n4 n5)
 clear h hf n2 n3 n5 hS
 generalize naiveP st q.1 p l = r at *
 by_cases he : r.2 = 0
 ·have KN := ζ (K.out.mono (R' := fun e w' => (∃ (a : Option Addr) (c m : Nat) (zs : List (List PFact)),m < 1000 ∧ zs.length = m + 1 ∧ e = .returned (.tuple #[.slice a (m + 1) c,.int .i64 0]) ∧ RdLists (fun _ => True) w' (.slice a (m + 1) c) zs ∧ zs[m]? = some r.1) ∧ Below w.heap.size w w') fun e w' ⟨h1,h2⟩ => by
   rcases h2 with ⟨n,h3,h4,-⟩ | ⟨l,h3,h4⟩
   ·rw [h3] at he;exact absurd he h4
   ·rw [h3];exact ⟨h4,h1⟩)
  obtain ⟨rl,re⟩ := r
  dsimp only at *
  subst he
  clear K
  go_enter Tryz.func13,Tryz.ntmps13
  go_wp2_with (go_at_call 24;refine (KN.out).mono ?_;rintro e w1 ⟨⟨a1,c1,m,zs,hm,hzl,rfl,hr1,hz1⟩,hb1⟩;obtain ⟨g,o,cv,rfl,-,hg2,c2,hcv⟩ := RdLists.at hr1 hz1;obtain ⟨ca,cc,rfl,-,-,-⟩ := id hcv.form;have HB1 := ζ hb1;have HCV := ζ hcv;have hw1 : IntKind.i64.wrap ((m : Int) + 1 - 1) = (m : Int) := (by rw [IntKind.wrap_i64];omega);have hw2 : IntKind.i64.wrap (m : Int) = (m : Int) := (by rw [IntKind.wrap_i64];omega);have i1 : (0 : Int) ≤ (m : Int) := (by omega);have i2 : (m : Int) < (m : Int) + 1 := (by omega);clear hr1 hz1 hcv hb1)
  refine bodyPost_ret (v := .tuple #[.slice ca rl.length cc,.int .i64 0]) (by simp [results,Tryz.results13,go_sem]) rfl ?_
  exact ⟨⟨ca,cc,rfl,HCV.out⟩,HB1.out⟩
 ·have KN := ζ (K.out.mono (R' := fun e w' => (r.1 = [] ∧ e = .returned (.tuple #[.slice none 0 0,.int .i64 r.2])) ∧ Below w.heap.size w w') fun e w' ⟨h1,h2⟩ => by
   rcases h2 with ⟨n,h3,h4,h5⟩ | ⟨l,h3,h4⟩
   ·rw [h3];exact ⟨⟨rfl,h5⟩,h1⟩
   ·rw [h3] at he;exact absurd rfl he)
  obtain ⟨rl,re⟩ := r
  dsimp only at *
  have g1 : (re != 0) = true := by simpa using he
  clear K he
  go_enter Tryz.func13,Tryz.ntmps13
  go_wp2_with (go_at_call 24;refine (KN.out).mono ?_;rintro e w1 ⟨⟨rfl,rfl⟩,hb1⟩;have HB1 := ζ hb1;clear hb1)
  refine bodyPost_ret (v := .tuple #[.slice none 0 0,.int .i64 re]) (by simp [results,Tryz.results13,go_sem]) rfl ?_
  exact ⟨⟨none,0,rfl,RdFacts.nil⟩,HB1.out⟩
end
section
open Go.RowKit
attribute [local go_sem ↓] Go.wp_at_zero Go.wp_at_succ
set_option maxRecDepth 100000 in
set_option maxHeartbeats 0 in
theorem ageRef {S S2 : Nat → Prop} (D : Nat) (pv nv : Value) (za : Option Addr) (zc : Nat) (zs : List (List PFact)) (f : PFact) (av : Value) (w : World)
 (hD : Blk w D 71 #[pv,.slice za zs.length zc,nv]) (hz : RdLists S w (.slice za zs.length zc) zs) (hf : RdStrs S2 w av f.args)
 (n1 : zs.length ≤ 1048576) (n2 : ∀ z ∈ zs,z.length ≤ 1048576 ∧ ∀ x ∈ z,x.args.length ≤ 1048576) (n3 : f.args.length ≤ 1048576) :
 Calls Tryz.prog 50 #[.pointer (some ⟨D,0,none⟩),.agg #[.string f.name,av]] w fun e w' => e = .returned (.int .i64 (ixR f zs : Int)) ∧ Below w.heap.size w w' := by
 obtain ⟨aa,ac,rfl,-,-,-⟩ := id hf.form
 have HD := ζ hD
 have HZ := ζ hz
 have HF := ζ hf
 have N2 := ζ n2
 obtain ⟨W0,hW0⟩ : ∃ W0 : World,w.alloc (.cells #[.string f.name,.slice aa f.args.length ac] 27) = W0 := ⟨_,rfl⟩
 have HB0 := ζ (show Below w.heap.size w W0 by subst hW0;exact (ζb _ _).alloc (ζn _) _)
 have HX0 := ζ (show Blk W0 w.heap.size 27 #[.string f.name,.slice aa f.args.length ac] by subst hW0;exact Blk.new w _ _)
 have HI0 := ζ (show ixR f zs = 0 + ixR f (zs.drop 0) by simp)
 have HR0 := ζ (ζb W0.heap.size W0)
 clear hD hz hf n2
 go_enter Tryz.func50,Tryz.ntmps50
 go_wp2
 clear hW0
 go_loopw [5] (fun i wr => ∃ n : Nat,n ≤ zs.length ∧ i = .int .i64 n ∧ Hid (ixR f zs = n + ixR f (zs.drop n)) ∧ Hid (Below W0.heap.size W0 wr)) (fun i _ => zs.length - (intOf i).toNat)
 case atStart => exact ⟨0,Nat.zero_le _,rfl,HI0,HR0⟩
 case round =>
  clear HI0 HR0
  obtain ⟨n,hn,rfl,HI,HBR⟩ := hrel
  have HB := ζ (HB0.out.trans (HBR.out.mono HB0.out.size))
  have d1 := (HD.out.below HB.out HD.out.lt).cell 1
  have x0 := (HX0.out.below HBR.out HX0.out.lt).cell 0
  have x1 := (HX0.out.below HBR.out HX0.out.lt).cell 1
  simp only [ζc] at d1 x0 x1
  by_cases hlt : n < zs.length
  ·obtain ⟨z,hzz⟩ : ∃ z,zs[n]? = some z := ⟨_,ζe hlt⟩
   obtain ⟨g,o,cv,rfl,-,hg2,c2,hcv⟩ := RdLists.at (HZ.out.agree RList.steady (Below.agree HB.out)) hzz
   obtain ⟨ca,cc,rfl,-,-,-⟩ := id hcv.form
   obtain ⟨m1,m2⟩ := N2.out z (ζm hzz)
   have HBD := ζ (HBR.out.drew)
   have KI := ζ (inRef (.slice ca z.length cc) z f (.slice aa f.args.length ac) wr.drew (RdFacts.up hcv (ζb wr.heap.size wr).drew) ((HF.out.up HB.out).up (ζb wr.heap.size wr).drew) (Nat.le_trans m1 (by decide)) (fun x hx => Nat.le_trans (m2 x hx) (by decide)) (Nat.le_trans n3 (by decide)))
   have HS := ζ (show ixR f (zs.drop n) = if memF f z then 0 else ixR f (zs.drop (n + 1)) + 1 by rw [drop_get hzz,ixR])
   have i1 : (n : Int) < (zs.length : Int) := by omega
   have i0 : (0 : Int) ≤ (n : Int) := by omega
   clear hzz hcv m1 m2
   cases hm : memF f z
   ·rw [hm] at KI HS
    have HI1 := ζ (show ixR f zs = (n + 1) + ixR f (zs.drop (n + 1)) by have h1 := HS.out;have h2 := HI.out;rw [if_neg (by simp)] at h1;omega)
    clear hm HS
    go_wp2
    go_region_held3 (fun w' => w'.cell? ⟨D,1,none⟩ = some (.slice (some ⟨g,o,none⟩) zs.length zc) ∧ w'.cell? ⟨g,o + n,none⟩ = some (.slice ca z.length cc) ∧ w'.cell? ⟨w.heap.size,0,none⟩ = some (.string f.name) ∧ w'.cell? ⟨w.heap.size,1,none⟩ = some (.slice aa f.args.length ac))
     (first | (with_reducible exact ⟨k1,k2,k3,k4⟩) | (with_reducible exact ⟨d1,c2,x0,x1⟩) | go_keep)
     (first | (go_at_call 26;(with_reducible refine (KI.out).mono ?_);rintro e w6 ⟨rfl,hf6⟩;have HB6 := ζ (HBD.out.trans (hf6.below.mono HBD.out.size));have k1 := (HD.out.below (HB0.out.trans (HB6.out.mono HB0.out.size)) HD.out.lt).cell 1;have k3 := (HX0.out.below HB6.out HX0.out.lt).cell 0;have k4 := (HX0.out.below HB6.out HX0.out.lt).cell 1;have k2 := (ζl hf6.below (Nat.lt_of_lt_of_le hg2 (ζb wr.heap.size wr).drew.size) _).trans c2;simp only [ζc] at k1 k3 k4;clear hf6))
    go_wp2
    go_roundw
    case rel => exact ⟨n + 1,by omega,by go_num,HI1,HB6⟩
    case measure => simp [intOf];omega
   ·rw [hm] at KI HS
    have HE := ζ (show ixR f zs = n by have h1 := HS.out;have h2 := HI.out;rw [if_pos rfl] at h1;omega)
    clear hm HS
    go_wp2
    go_region_held3 (fun w' => w'.cell? ⟨D,1,none⟩ = some (.slice (some ⟨g,o,none⟩) zs.length zc) ∧ w'.cell? ⟨g,o + n,none⟩ = some (.slice ca z.length cc) ∧ w'.cell? ⟨w.heap.size,0,none⟩ = some (.string f.name) ∧ w'.cell? ⟨w.heap.size,1,none⟩ = some (.slice aa f.args.length ac))
     (first | (with_reducible exact ⟨k1,k2,k3,k4⟩) | (with_reducible exact ⟨d1,c2,x0,x1⟩) | go_keep)
     (first | (go_at_call 26;(with_reducible refine (KI.out).mono ?_);rintro e w6 ⟨rfl,hf6⟩;have HB6 := ζ (HBD.out.trans (hf6.below.mono HBD.out.size));have k1 := (HD.out.below (HB0.out.trans (HB6.out.mono HB0.out.size)) HD.out.lt).cell 1;have k3 := (HX0.out.below HB6.out HX0.out.lt).cell 0;have k4 := (HX0.out.below HB6.out HX0.out.lt).cell 1;have k2 := (ζl hf6.below (Nat.lt_of_lt_of_le hg2 (ζb wr.heap.size wr).drew.size) _).trans c2;simp only [ζc] at k1 k3 k4;clear hf6))
    go_wp2
    go_ret
    refine ⟨?_,HB0.out.trans (HB6.out.mono HB0.out.size)⟩
    rw [HE.out]
    rfl
  ·obtain rfl : n = zs.length := by omega
   have HE := ζ (show ixR f zs = zs.length by have h2 := HI.out;rw [List.drop_length] at h2;exact h2)
   have i1 : ¬ (zs.length : Int) < (zs.length : Int) := by omega
   clear hlt HI
   go_wp2
   refine wp_region_held_drew (S := (fun w' => w'.cell? ⟨D,1,none⟩ = some (.slice za zs.length zc))) (by kernel_rfl) ?_ (fun hHeld => ?_)
   ·exact d1
   refine ζt (i := 0) (oi := ⟨some 6,_,_,_,_,_⟩) (v := ?_) rfl (Or.inl ⟨by rfl,?_⟩) (by assumption) ?_
   rotate_left
   ·(intro w' hSw;(try dsimp only at hSw);go_simp;try with_reducible rfl)
   try simp only [ζp]
   refine ζt (i := 1) (oi := ⟨some 7,_,_,_,_,_⟩) (v := ?_) rfl (Or.inl ⟨by rfl,?_⟩) (by assumption) ?_
   rotate_left
   ·(intro w' hSw;(try dsimp only at hSw);go_simp;try with_reducible rfl)
   try simp only [ζp]
   refine ζt (i := 2) (oi := ⟨some 8,_,_,_,_,_⟩) (v := ?_) rfl (Or.inl ⟨by rfl,?_⟩) (by assumption) ?_
   rotate_left
   ·(intro w' hSw;(try dsimp only at hSw);go_simp;try with_reducible rfl)
   try simp only [ζp]
   refine ζt (i := 3) (oi := ⟨some 9,_,_,_,_,_⟩) (v := ?_) rfl (Or.inl ⟨by rfl,?_⟩) (by assumption) ?_
   rotate_left
   ·(intro w' hSw;(try dsimp only at hSw);go_simp;try with_reducible rfl)
   try simp only [ζp]
   refine ζt (i := 4) (oi := ⟨some 10,_,_,_,_,_⟩) (v := ?_) rfl (Or.inl ⟨by rfl,?_⟩) (by assumption) ?_
   rotate_left
   ·(intro w' hSw;(try dsimp only at hSw);go_simp;try with_reducible rfl)
   try simp only [ζp]
   refine wpAnyH_ready (rs := [5]) (by kernel_rfl) (by simp) ?_
   refine AllReadyH.cons (o := ⟨some 11,_,_,_,_,_⟩) rfl (fun K hK => ?_) AllReadyH.nil
   go_simp
   skip
   refine hK.out _ _ ?_ (fun hHeld => ?_)
   ·exact d1
   clear hK K
   try simp only [ζp]
   refine ζt (i := 6) (oi := ⟨some 12,_,_,_,_,_⟩) (v := ?_) rfl (Or.inl ⟨by rfl,?_⟩) (by assumption) ?_
   rotate_left
   ·(intro w' hSw;(try dsimp only at hSw);go_simp;try with_reducible rfl)
   try simp only [ζp]
   refine ζt (i := 7) (oi := ⟨some 13,_,_,_,_,_⟩) (v := ?_) rfl (Or.inl ⟨by rfl,?_⟩) (by assumption) ?_
   rotate_left
   ·(intro w' hSw;(try dsimp only at hSw);go_simp;try with_reducible rfl)
   try simp only [ζp]
   refine ζt (i := 8) (oi := ⟨some 14,_,_,_,_,_⟩) (v := undef) rfl (Or.inr ⟨by rfl,rfl⟩) (by assumption) ?_
   try simp only [ζp]
   refine ζt (i := 9) (oi := ⟨some 15,_,_,_,_,_⟩) (v := undef) rfl (Or.inr ⟨by rfl,rfl⟩) (by assumption) ?_
   try simp only [ζp]
   refine ζt (i := 10) (oi := ⟨some 16,_,_,_,_,_⟩) (v := undef) rfl (Or.inr ⟨by rfl,rfl⟩) (by assumption) ?_
   try simp only [ζp]
   refine ζt (i := 11) (oi := ⟨some 17,_,_,_,_,_⟩) (v := undef) rfl (Or.inr ⟨by rfl,rfl⟩) (by assumption) ?_
   try simp only [ζp]
   refine ζt (i := 12) (oi := ⟨some 18,_,_,_,_,_⟩) (v := undef) rfl (Or.inr ⟨by rfl,rfl⟩) (by assumption) ?_
   try simp only [ζp]
   refine ζt (i := 13) (oi := ⟨some 19,_,_,_,_,_⟩) (v := undef) rfl (Or.inr ⟨by rfl,rfl⟩) (by assumption) ?_
   try simp only [ζp]
   refine ζt (i := 14) (oi := ⟨some 20,_,_,_,_,_⟩) (v := undef) rfl (Or.inr ⟨by rfl,rfl⟩) (by assumption) ?_
   try simp only [ζp]
   refine ζt (i := 15) (oi := ⟨some 21,_,_,_,_,_⟩) (v := undef) rfl (Or.inr ⟨by rfl,rfl⟩) (by assumption) ?_
   try simp only [ζp]
   refine ζt (i := 16) (oi := ⟨some 22,_,_,_,_,_⟩) (v := undef) rfl (Or.inr ⟨by rfl,rfl⟩) (by assumption) ?_
   try simp only [ζp]
   refine ζt (i := 17) (oi := ⟨some 23,_,_,_,_,_⟩) (v := undef) rfl (Or.inr ⟨by rfl,rfl⟩) (by assumption) ?_
   try simp only [ζp]
   refine ζt (i := 18) (oi := ⟨some 24,_,_,_,_,_⟩) (v := ?_) rfl (Or.inl ⟨by rfl,?_⟩) (by assumption) ?_
   rotate_left
   ·(intro w' hSw;(try dsimp only at hSw);go_simp;try with_reducible rfl)
   try simp only [ζp]
   refine wpAnyH_done (by kernel_rfl) ?_ _
   go_wp2
   go_ret
   refine ⟨?_,HB.out.drew⟩
   rw [HE.out]
   rfl
end
end Go.Proofs.YtdngkcieckejoaaGreat
