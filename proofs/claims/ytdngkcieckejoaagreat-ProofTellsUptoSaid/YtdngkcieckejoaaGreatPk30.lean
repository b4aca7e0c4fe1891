/-
  THE TEXTS RcPrv, RcCount, RcCheck, SameP, ProofQ, OpenProof, one behind the other.
-/
import Derived.Test.YtdngkcieckejoaaGreatPk6
import Derived.Test.YtdngkcieckejoaaGreatPk13
import Derived.Test.YtdngkcieckejoaaGreatPk17
import Derived.Test.YtdngkcieckejoaaGreatPk23
import Derived.Test.YtdngkcieckejoaaGreatPk24
import Derived.Test.YtdngkcieckejoaaGreatPk29
namespace Go.Proofs.YtdngkcieckejoaaGreat
section
open Go.RowKit
def ProveR (r : Option PProof × Int) (w : World) (e : Ending) (w' : World) : Prop :=
 Below w.heap.size w w' ∧ match r.1 with
  | none => e = .returned (.tuple #[.agg #[.string ⟨#[]⟩,.slice none 0 0,.int .i64 0,.slice none 0 0],.int .i64 r.2])
  | some x => ∃ aa ac ka kc,e = .returned (.tuple #[.agg #[.string x.fact.name,.slice aa x.fact.args.length ac,.int .i64 x.rule,.slice ka x.kids.length kc],.int .i64 r.2]) ∧ RdStrs (fun _ => True) w' (.slice aa x.fact.args.length ac) x.fact.args ∧ RdProofs 61 (fun _ => True) w' (.slice ka x.kids.length kc) x.kids
theorem pv_none {r : Option PProof × Int} {n : Int} {w w' : World} (h : r = (none,n)) (hb : Below w.heap.size w w') : ProveR r w (.returned (.tuple #[.agg #[.string ⟨#[]⟩,.slice none 0 0,.int .i64 0,.slice none 0 0],.int .i64 n])) w' := by subst h;exact ⟨hb,rfl⟩
theorem pv_some {r : Option PProof × Int} {x : PProof} {n : Int} {aa ka : Option Addr} {ac kc : Nat} {w w' : World} (h : r = (some x,n)) (hb : Below w.heap.size w w') (h1 : RdStrs (fun _ => True) w' (.slice aa x.fact.args.length ac) x.fact.args) (h2 : RdProofs 61 (fun _ => True) w' (.slice ka x.kids.length kc) x.kids) :
 ProveR r w (.returned (.tuple #[.agg #[.string x.fact.name,.slice aa x.fact.args.length ac,.int .i64 x.rule,.slice ka x.kids.length kc],.int .i64 n])) w' := by subst h;exact ⟨hb,aa,ac,ka,kc,rfl,h1,h2⟩
theorem prove_err7 {st : List Int} {q n : Int} {p : List PRule} {l M : List PFact} {f : PFact} (h : naiveP st q p l = (M,n)) (hn : n ≠ 0) : proveP st q p l f = (none,n) := by
 by_cases hq : q = 0
 ·subst hq
  have h2 : (naiveP st 0 p l).2 ≠ 0 := by rw [h];exact hn
  rw [prove_all h2,h]
 ·rw [prove_q hq]
  rw [naive_q hq] at h
  exact congrArg _ (Prod.mk.inj h).2
theorem prove_wrong7 {st : List Int} {q : Int} {p : List PRule} {l : List PFact} {f : PFact} (hq : q = 0) (h : (naiveP st q p l).2 = 0) (h2 : wrongF f ≠ 0) : proveP st q p l f = (none,wrongF f) := by subst hq;exact prove_wrong h h2
theorem prove_out7 {st : List Int} {q : Int} {p : List PRule} {l : List PFact} {f : PFact} (hq : q = 0) (h : (naiveP st q p l).2 = 0) (h2 : wrongF f = 0) (h3 : memF f (naiveP st q p l).1 = false) : proveP st q p l f = (none,6) := by subst hq;exact prove_out h h2 h3
theorem prove_find7 {st : List Int} {q : Int} {p : List PRule} {l : List PFact} {f : PFact} (hq : q = 0) (h : (naiveP st q p l).2 = 0) (h2 : wrongF f = 0) (h3 : memF f (naiveP st q p l).1 = true) : proveP st q p l f = match (findN p l (naiveP st q p l).1 (agesP st p l) 61 0 f 1).1 with
 | none => (none,4)
 | some x => (some x,0) := by subst hq;exact prove_find h h2 h3
attribute [local go_sem ↓] Go.wp_at_zero Go.wp_at_succ
set_option maxRecDepth 100000 in
set_option maxHeartbeats 0 in
theorem proveRef7 {S S3 S4 : Nat → Prop} (p : List PRule) (v fv : Value) (st : List Int) (q : Int × Int) (l : List PFact) (f : PFact) (av : Value) (w : World) (hS : StrataIs p st q) (h : RdRules S w v p) (hf : RdFacts S3 w fv l) (ha : RdStrs S4 w av f.args)
 (n1 : p.length ≤ 1048576) (n2 : ∀ r ∈ p,RuleSmall r) (n3 : ∀ r ∈ p,NameSmall r) (n4 : l.length ≤ 1048576) (n5 : FactsSmall l) (n6 : f.args.length ≤ 1048576) (n7 : ∀ a ∈ f.args,a.size ≤ 1048576) (n8 : f.name.size ≤ 1048576) :
 Calls Tryz.prog 9 #[v,fv,.agg #[.string f.name,av]] w (ProveR (proveP st q.1 p l f) w) := by
 obtain ⟨a,c,rfl,-,-,-⟩ := id h.form
 obtain ⟨fa,fc,rfl,-,-,-⟩ := id hf.form
 obtain ⟨aa,ac,rfl,-,-,-⟩ := id ha.form
 obtain ⟨W0,hW0⟩ : ∃ W0 : World,(w.alloc (.cells #[.string f.name,.slice aa f.args.length ac] 27)).alloc (.cells #[.string ⟨#[]⟩,.slice none 0 0,.int .i64 0,.slice none 0 0] 30) = W0 := ⟨_,rfl⟩
 have HW0 := ζ (show PvW w W0 (.string f.name) (.slice aa f.args.length ac) by
  subst hW0
  exact ⟨((ζb _ _).alloc (ζn _) _).alloc (by simp) _,(Blk.new w _ _).alloc _,heap_new_at (by simp)⟩)
 obtain ⟨q0,q1⟩ := q
 have KR := ζ (roundsAges p (.slice a p.length c) (.slice fa l.length fc) st (q0,q1) l W0 hS (h.up HW0.out.below) (RdFacts.up hf HW0.out.below) n1 n2 n3 n4 n5)
 have H := ζ h
 have HA := ζ (show RdStrs (fun b => S4 b ∧ b < w.heap.size) w (.slice aa f.args.length ac) f.args from ha.more ζS (fun b h1 h2 => ⟨h1,h2⟩))
 have N2 := ζ n2
 have hR1 : w.heap.size ≤ w.heap.size + 1 := Nat.le_succ _
 have KW := ζ (fun W (hW : Below w.heap.size w W) => wrongRef f (.slice aa f.args.length ac) W (HA.out.up hW) (by omega) (by omega) (fun x hx => by have := n7 x hx;omega))
 have HFO := ζ (naive_follows hS (l := l))
 have E1 := ζ (fun M n => prove_err7 (st := st) (q := q0) (n := n) (p := p) (l := l) (M := M) (f := f))
 have E2 := ζ (prove_wrong7 (st := st) (q := q0) (p := p) (l := l) (f := f))
 have E3 := ζ (prove_out7 (st := st) (q := q0) (p := p) (l := l) (f := f))
 have E4 := ζ (prove_find7 (st := st) (q := q0) (p := p) (l := l) (f := f))
 have E5 := ζ (fun (h : (naiveP st q0 p l).2 = 0) => (naive_zero h).1)
 clear h hf ha n2 n3 n5 n7 hS
 dsimp only at *
 generalize proveP st q0 p l f = RR at *
 generalize naiveP st q0 p l = z at *
 obtain ⟨M,e0⟩ := z
 dsimp only at *
 by_cases he : e0 = 0
 case neg =>
  have g1 : (e0 != 0) = true := by simpa using he
  have HE := ζ (E1.out M e0 rfl he)
  have KN := ζ (KR.out.mono (R' := fun e w' => e = .returned (.tuple #[.slice none 0 0,.int .i64 e0]) ∧ Below W0.heap.size W0 w') fun e w' ⟨h1,h2⟩ => by
   rcases h2 with ⟨n,h3,-,h5⟩ | ⟨M',h3,-⟩
   ·rw [(Prod.mk.inj h3).2];exact ⟨h5,h1⟩
   ·exact absurd (Prod.mk.inj h3).2 he)
  clear he E1 E2 E3 E4 E5 HFO KW KR
  go_enter Tryz.func9,Tryz.ntmps9
  go_wp2_with (go_at_call 24;refine (KN.out).mono ?_;rintro e w2 ⟨rfl,hb2⟩;have HW2 := ζ (HW0.out.next hb2);have c0 := HW2.out.z.cell 0;have c1 := HW2.out.z.cell 1;have c2' := HW2.out.z.cell 2;have c3 := HW2.out.z.cell 3;have y0 := HW2.out.z.frozen 0;have y1 := HW2.out.z.frozen 1;have y2 := HW2.out.z.frozen 2;have y3 := HW2.out.z.frozen 3;simp only [ζc] at c0 c1 c2' c3;clear hb2)
  refine bodyPost_ret (v := .tuple #[.agg #[.string ⟨#[]⟩,.slice none 0 0,.int .i64 0,.slice none 0 0],.int .i64 e0]) (by simp [results,Tryz.results9,go_sem,c0,c1,c2',c3]) rfl (pv_none HE.out ?_)
  exact (((HW2.out.below.setCell hR1 _).setCell hR1 _).setCell hR1 _).setCell hR1 _
 subst he
 obtain ⟨hF,hset,hR⟩ := HFO.out rfl
 have HFL := ζ hF
 have HR := ζ hR
 have hq0 := E5.out rfl
 have KN := ζ (KR.out.mono (R' := fun e w' => (∃ (a : Option Addr) (c m : Nat) (zs : List (List PFact)),m < 1000 ∧ zs.length = m + 1 ∧ e = .returned (.tuple #[.slice a (m + 1) c,.int .i64 0]) ∧ RdLists (fun _ => True) w' (.slice a (m + 1) c) zs ∧ zs[m]? = some M ∧ AgesIn (agesP st p l) zs M ∧ zs.head? = some l ∧ ∀ z ∈ zs,z.length ≤ 200) ∧ Below W0.heap.size W0 w') fun e w' ⟨h1,h2⟩ => by
  rcases h2 with ⟨n,h3,h4,-⟩ | ⟨M',h3,h4⟩
  ·exact absurd (Prod.mk.inj h3).2.symm h4
  ·rw [(Prod.mk.inj h3).1];exact ⟨h4,h1⟩)
 clear hF hset hR HFO E1 E5 KR
 by_cases hwf : wrongF f = 0
 case neg =>
  have HE := ζ (E2.out hq0 rfl hwf)
  have g1 : (wrongF f != 0) = true := by simpa using hwf
  clear hwf E2 E3 E4 hq0
  generalize wrongF f = wf at *
  go_enter Tryz.func9,Tryz.ntmps9
  go_wp2_with (first
   | (go_at_call 25;have hh := HW2.out;clear hh;refine (KW.out _ HW2.out.below).mono ?_;rintro e w3 ⟨rfl,hb3⟩;have HW3 := ζ (HW2.out.next hb3);have HB3 := ζ hb3;have c0 := HW3.out.z.cell 0;have c1 := HW3.out.z.cell 1;have c2' := HW3.out.z.cell 2;have c3 := HW3.out.z.cell 3;have y0 := HW3.out.z.frozen 0;have y1 := HW3.out.z.frozen 1;have y2 := HW3.out.z.frozen 2;have y3 := HW3.out.z.frozen 3;simp only [ζc] at c0 c1 c2' c3;clear hb3)
   | (go_at_call 24;refine (KN.out).mono ?_;rintro e w2 ⟨⟨za,zc,m,zs,hm,hzl,rfl,hr2,hz2,hag,hhd,hlen⟩,hb2⟩;have HW2 := ζ (HW0.out.next hb2);have HLR := ζ hr2;have HZL := ζ hzl;have HZM := ζ hz2;have HAG := ζ hag;have HHD := ζ hhd;have HLN := ζ hlen;have f0 := HW2.out.f.cell 0;have f1 := HW2.out.f.cell 1;simp only [ζc] at f0 f1;clear hb2 hr2 hz2 hag hhd hlen hzl))
  refine bodyPost_ret (v := .tuple #[.agg #[.string ⟨#[]⟩,.slice none 0 0,.int .i64 0,.slice none 0 0],.int .i64 wf]) (by simp [results,Tryz.results9,go_sem,c0,c1,c2',c3]) rfl (pv_none HE.out ?_)
  exact (((HW3.out.below.setCell hR1 _).setCell hR1 _).setCell hR1 _).setCell hR1 _
 have HFW := ζ hwf
 rw [hwf] at KW
 clear hwf E2
 cases hmf : memF f M with
 | false =>
  have HE := ζ (E3.out hq0 rfl HFW.out hmf)
  have HMF := ζ hmf
  clear E3 E4 hq0 hmf
  go_enter Tryz.func9,Tryz.ntmps9
  go_wp2_with (first
   | (go_at_call 25;have hh := HW2.out;clear hh;refine (KW.out _ HW2.out.below).mono ?_;rintro e w3 ⟨rfl,hb3⟩;have HW3 := ζ (HW2.out.next hb3);have HB3 := ζ hb3;obtain ⟨g,o,cv,rfl,-,hg2,e2,hcv⟩ := RdLists.at (HLR.out.agree RList.steady (Below.agree hb3)) HZM.out;obtain ⟨ca,cc,rfl,-,-,-⟩ := id hcv.form;have HCV := ζ hcv;have hw1 : IntKind.i64.wrap ((m : Int) + 1 - 1) = (m : Int) := (by rw [IntKind.wrap_i64];omega);have hw2 : IntKind.i64.wrap (m : Int) = (m : Int) := (by rw [IntKind.wrap_i64];omega);have i1 : (0 : Int) ≤ (m : Int) := (by omega);have i2 : (m : Int) < (m : Int) + 1 := (by omega);have f0 := HW3.out.f.cell 0;have f1 := HW3.out.f.cell 1;simp only [ζc] at f0 f1;clear hb3)
   | (go_at_call 24;refine (KN.out).mono ?_;rintro e w2 ⟨⟨za,zc,m,zs,hm,hzl,rfl,hr2,hz2,hag,hhd,hlen⟩,hb2⟩;have HW2 := ζ (HW0.out.next hb2);have HLR := ζ hr2;have HZL := ζ hzl;have HZM := ζ hz2;have HAG := ζ hag;have HHD := ζ hhd;have HLN := ζ hlen;have f0 := HW2.out.f.cell 0;have f1 := HW2.out.f.cell 1;simp only [ζc] at f0 f1;clear hb2 hr2 hz2 hag hhd hlen hzl))
  have HBD := ζ (ζb w3.heap.size w3).drew
  have KI := ζ (inRef (.slice ca M.length cc) M f (.slice aa f.args.length ac) w3.drew (RdFacts.up HCV.out (ζb w3.heap.size w3).drew) ((HA.out.up HW3.out.below).up (ζb w3.heap.size w3).drew) (Nat.le_trans HFL.out.len (by decide)) (fun z hz => by have := (wrongF_zero.1 (HFL.out.good z hz)).2.1;omega) (by omega))
  rw [HMF.out] at KI
  go_region_held3 (fun w' => w'.cell? ⟨g,o + m,none⟩ = some (.slice ca M.length cc) ∧ w'.cell? ⟨w.heap.size,0,none⟩ = some (.string f.name) ∧ w'.cell? ⟨w.heap.size,1,none⟩ = some (.slice aa f.args.length ac))
   (first | (with_reducible exact ⟨k0,k1,k2⟩) | (with_reducible exact ⟨e2,f0,f1⟩) | go_keep)
   (first | (go_at_call 26;(with_reducible refine (KI.out).mono ?_);rintro e w4 ⟨rfl,hf4⟩;have HB4 := ζ (HBD.out.trans (hf4.below.mono HBD.out.size));have HW4 := ζ (HW3.out.next HB4.out);have k0 := (ζl HB4.out hg2 _).trans e2;have k1 := HW4.out.f.cell 0;have k2 := HW4.out.f.cell 1;simp only [ζc] at k1 k2;clear hf4))
  have c0 := HW4.out.z.cell 0
  have c1 := HW4.out.z.cell 1
  have c2' := HW4.out.z.cell 2
  have c3 := HW4.out.z.cell 3
  have y0 := HW4.out.z.frozen 0
  have y1 := HW4.out.z.frozen 1
  have y2 := HW4.out.z.frozen 2
  have y3 := HW4.out.z.frozen 3
  simp only [ζc] at c0 c1 c2' c3
  go_wp2
  refine bodyPost_ret (v := .tuple #[.agg #[.string ⟨#[]⟩,.slice none 0 0,.int .i64 0,.slice none 0 0],.int .i64 6]) (by simp [results,Tryz.results9,go_sem,c0,c1,c2',c3]) rfl (pv_none HE.out ?_)
  exact (((HW4.out.below.setCell hR1 _).setCell hR1 _).setCell hR1 _).setCell hR1 _
 | true =>
  have HE := ζ (E4.out hq0 rfl HFW.out hmf)
  have HMF := ζ hmf
  have HIN := ζ ((memF_iff f M).1 hmf)
  clear E3 E4 hq0 hmf
  go_enter Tryz.func9,Tryz.ntmps9
  go_wp2_with (first
   | (go_at_call 25;have hh := HW2.out;clear hh;refine (KW.out _ HW2.out.below).mono ?_;rintro e w3 ⟨rfl,hb3⟩;have HW3 := ζ (HW2.out.next hb3);have HB3 := ζ hb3;obtain ⟨g,o,cv,rfl,-,hg2,e2,hcv⟩ := RdLists.at (HLR.out.agree RList.steady (Below.agree hb3)) HZM.out;obtain ⟨ca,cc,rfl,-,-,-⟩ := id hcv.form;have HCV := ζ hcv;have hw1 : IntKind.i64.wrap ((m : Int) + 1 - 1) = (m : Int) := (by rw [IntKind.wrap_i64];omega);have hw2 : IntKind.i64.wrap (m : Int) = (m : Int) := (by rw [IntKind.wrap_i64];omega);have i1 : (0 : Int) ≤ (m : Int) := (by omega);have i2 : (m : Int) < (m : Int) + 1 := (by omega);have f0 := HW3.out.f.cell 0;have f1 := HW3.out.f.cell 1;simp only [ζc] at f0 f1;clear hb3)
   | (go_at_call 24;refine (KN.out).mono ?_;rintro e w2 ⟨⟨za,zc,m,zs,hm,hzl,rfl,hr2,hz2,hag,hhd,hlen⟩,hb2⟩;have HW2 := ζ (HW0.out.next hb2);have HLR := ζ hr2;have HZL := ζ hzl;have HZM := ζ hz2;have HAG := ζ hag;have HHD := ζ hhd;have HLN := ζ hlen;have f0 := HW2.out.f.cell 0;have f1 := HW2.out.f.cell 1;simp only [ζc] at f0 f1;clear hb2 hr2 hz2 hag hhd hlen hzl))
  have HBD := ζ (ζb w3.heap.size w3).drew
  have KI := ζ (inRef (.slice ca M.length cc) M f (.slice aa f.args.length ac) w3.drew (RdFacts.up HCV.out (ζb w3.heap.size w3).drew) ((HA.out.up HW3.out.below).up (ζb w3.heap.size w3).drew) (Nat.le_trans HFL.out.len (by decide)) (fun z hz => by have := (wrongF_zero.1 (HFL.out.good z hz)).2.1;omega) (by omega))
  rw [HMF.out] at KI
  go_region_held3 (fun w' => w'.cell? ⟨g,o + m,none⟩ = some (.slice ca M.length cc) ∧ w'.cell? ⟨w.heap.size,0,none⟩ = some (.string f.name) ∧ w'.cell? ⟨w.heap.size,1,none⟩ = some (.slice aa f.args.length ac))
   (first | (with_reducible exact ⟨k0,k1,k2⟩) | (with_reducible exact ⟨e2,f0,f1⟩) | go_keep)
   (first | (go_at_call 26;(with_reducible refine (KI.out).mono ?_);rintro e w4 ⟨rfl,hf4⟩;have HB4 := ζ (HBD.out.trans (hf4.below.mono HBD.out.size));have HW4 := ζ (HW3.out.next HB4.out);have k0 := (ζl HB4.out hg2 _).trans e2;have k1 := HW4.out.f.cell 0;have k2 := HW4.out.f.cell 1;simp only [ζc] at k1 k2;clear hf4))
  clear hw1 hw2 i1 i2 k0 HZM HBD
  have HG := ζ (show Good M from ⟨HFL.out.rise,HFL.out.len,HFL.out.good⟩)
  have hsw := HW4.out.z.lt
  have hs24 : w2.heap.size ≤ w4.heap.size := Nat.le_trans HB3.out.size HB4.out.size
  obtain ⟨W5,hW5⟩ : ∃ W5 : World,w4.alloc (.cells #[.slice a p.length c,.slice (some ⟨g,o,none⟩) (m + 1) zc,.int .i64 0] 71) = W5 := ⟨_,rfl⟩
  obtain ⟨D,hD⟩ : ∃ D,w4.heap.size = D := ⟨_,rfl⟩
  have HB5 := ζ (show Below w4.heap.size w4 W5 by subst hW5;exact (ζb _ _).alloc (ζn _) _)
  have HD5 := ζ (show Blk W5 D 71 #[.slice a p.length c,.slice (some ⟨g,o,none⟩) (m + 1) zc,.int .i64 0] by subst hW5;subst hD;exact Blk.new w4 _ _)
  have HW5 := ζ (HW4.out.next HB5.out)
  have f0 := HW5.out.f.cell 0;have f1 := HW5.out.f.cell 1
  simp only [ζc] at f0 f1
  have hs5 : W5.heap.size = D + 1 := by subst hW5;subst hD;simp
  rw [hD] at hsw hs24
  have HE5 := ζ (show WEnv (fun b => b < D) p zs D (.slice a p.length c) (.slice (some ⟨g,o,none⟩) (m + 1) zc) W5 0 from
   ⟨HD5.out,(H.out.more RRule.steady (S' := fun b => b < D) (fun b _ hb => by have := HW4.out.below.size;rw [hD] at this;omega)).agree RRule.steady (Below.agree HW5.out.below),(HLR.out.more RList.steady (S' := fun b => b < D) (fun b _ hb => by omega)).agree RList.steady (Below.agree (HB3.out.trans ((HB4.out.trans (HB5.out.mono HB4.out.size)).mono HB3.out.size))),fun e => Nat.lt_irrefl _ e⟩)
  have HA5 := ζ (show RdStrs (fun b => S4 b ∧ b < w.heap.size) W5 (.slice aa f.args.length ac) f.args from RdSlice.agree ζS (Below.agree HW5.out.below) HA.out)
  have KO := ζ (ofCalls7 (age := agesP st p l) HZL.out HAG.out HHD.out (by omega) HLN.out HR.out N2.out n1 HG.out 60 f (.slice aa f.args.length ac) 0 1 W5 rfl HE5.out HA5.out (fun e => by have := e.2;omega) (by omega) HIN.out)
  generalize findN p l M (agesP st p l) 61 0 f 1 = T at *
  obtain ⟨To,Ts⟩ := T
  dsimp only at HE
  cases To with
  | none =>
   go_wp2_with (go_at_call 27;refine (KO.out).mono ?_;rintro e w6 ⟨hb6,hd6,rfl⟩;have HW6 := ζ (show PvW w w6 (.string f.name) (.slice aa f.args.length ac) from ⟨below_but HW5.out.below hb6 (by omega),HW5.out.f.but hb6 (by omega),HW5.out.z.but hb6 (by omega)⟩);have c0 := HW6.out.z.cell 0;have c1 := HW6.out.z.cell 1;have c2' := HW6.out.z.cell 2;have c3 := HW6.out.z.cell 3;have y0 := HW6.out.z.frozen 0;have y1 := HW6.out.z.frozen 1;have y2 := HW6.out.z.frozen 2;have y3 := HW6.out.z.frozen 3;simp only [ζc] at c0 c1 c2' c3;clear hb6 hd6)
   refine bodyPost_ret (v := .tuple #[.agg #[.string ⟨#[]⟩,.slice none 0 0,.int .i64 0,.slice none 0 0],.int .i64 4]) (by simp [results,Tryz.results9,go_sem,c0,c1,c2',c3]) rfl (pv_none HE.out ?_)
   exact (((HW6.out.below.setCell hR1 _).setCell hR1 _).setCell hR1 _).setCell hR1 _
  | some x =>
   go_wp2_with (go_at_call 27;refine (KO.out).mono ?_;rintro e w6 ⟨hb6,hd6,B6,a6,c6,k6,l6,rfl,hB6,hbk6,hra6,hrk6⟩;have HW6 := ζ (show PvW w w6 (.string f.name) (.slice aa f.args.length ac) from ⟨below_but HW5.out.below hb6 (by omega),HW5.out.f.but hb6 (by omega),HW5.out.z.but hb6 (by omega)⟩);have c0 := HW6.out.z.cell 0;have c1 := HW6.out.z.cell 1;have c2' := HW6.out.z.cell 2;have c3 := HW6.out.z.cell 3;have y0 := HW6.out.z.frozen 0;have y1 := HW6.out.z.frozen 1;have y2 := HW6.out.z.frozen 2;have y3 := HW6.out.z.frozen 3;simp only [ζc] at c0 c1 c2' c3;have b0 := hbk6.cell 0;have b1 := hbk6.cell 1;have b2 := hbk6.cell 2;have b3 := hbk6.cell 3;simp only [ζc] at b0 b1 b2 b3;have HRA := ζ hra6;have HRK := ζ hrk6;have hBne : B6 ≠ w.heap.size + 1 := (by omega);clear hb6 hd6 hra6 hrk6 hbk6)
   refine bodyPost_ret (v := .tuple #[.agg #[.string x.fact.name,.slice a6 x.fact.args.length c6,.int .i64 x.rule,.slice k6 x.kids.length l6],.int .i64 0]) (by simp [results,Tryz.results9,go_sem,c0,c1,c2',c3]) rfl (pv_some HE.out ?_ ?_ ?_)
   ·exact (((HW6.out.below.setCell hR1 _).setCell hR1 _).setCell hR1 _).setCell hR1 _
   ·exact (four_sets ζS HRA.out (fun e => by have := e.2;omega) _ _ _ _).more ζS (fun _ _ _ => trivial)
   ·exact (four_sets (RProofN.steady 61) HRK.out (fun e => e.elim (fun e => by have := e.2;omega) (fun e => by omega)) _ _ _ _).more (RProofN.steady 61) (fun _ _ _ => trivial)
end
section
open Go.RowKit
attribute [local go_sem ↓] Go.wp_at_zero Go.wp_at_succ
set_option maxRecDepth 100000 in
set_option maxHeartbeats 0 in
theorem countWalk7 (c d : PProof → Nat) (nm av : Value) (rl : Int) (ka : Option Addr) (kc : Nat) (ks : List PProof) (w : World)
 (K : ∀ (i : Nat) (k : PProof),ks[i]? = some k → ∃ b off a1 n1 c1 a2 n2 c2,ka = some ⟨b,off,none⟩ ∧ b < w.heap.size ∧ w.cell? ⟨b,off + i * 4,none⟩ = some (.string k.fact.name) ∧ w.cell? ⟨b,off + i * 4 + 1,none⟩ = some (.slice a1 n1 c1) ∧ w.cell? ⟨b,off + i * 4 + 2,none⟩ = some (.int .i64 k.rule) ∧ w.cell? ⟨b,off + i * 4 + 3,none⟩ = some (.slice a2 n2 c2) ∧
  ∀ W,Below w.heap.size w W → Calls Tryz.prog 5 #[.agg #[.string k.fact.name,.slice a1 n1 c1,.int .i64 k.rule,.slice a2 n2 c2]] W fun e w' => e = .returned (.tuple #[.int .i64 (c k : Int),.int .i64 (d k : Int)]) ∧ Below W.heap.size W w')
 (hn : ks.length ≤ 1048576) (hc : sumBy c ks ≤ 1048576) (hd : ∀ k ∈ ks,d k ≤ 1048576) :
 Calls Tryz.prog 5 #[.agg #[nm,av,.int .i64 rl,.slice ka ks.length kc]] w fun e w' => e = .returned (.tuple #[.int .i64 ((1 + sumBy c ks : Nat) : Int),.int .i64 ((maxBy d ks + 1 : Nat) : Int)]) ∧ Below w.heap.size w w' := by
 have HK := ζ K
 have HD := ζ hd
 have HB0 := ζ ((ζb w.heap.size w).alloc (ζn _) (.cells #[nm,av,.int .i64 rl,.slice ka ks.length kc] 30))
 clear K hd
 go_enter Tryz.func5,Tryz.ntmps5
 go_wp2
 go_loopw [13,4,5] (fun i n m wr => ∃ k : Nat,k ≤ ks.length ∧ i = .int .i64 k ∧ n = .int .i64 ((1 + sumBy c (ks.take k) : Nat) : Int) ∧ m = .int .i64 ((maxBy d (ks.take k) + 1 : Nat) : Int) ∧ Hid (Below w.heap.size w wr)) (fun i _ _ _ => ks.length - (intOf i).toNat)
 case atStart => exact ⟨0,Nat.zero_le _,rfl,by simp [sumBy],by simp [maxBy],HB0⟩
 case round =>
  clear HB0
  obtain ⟨k,hk,rfl,rfl,rfl,HB⟩ := hrel
  by_cases hlt : k < ks.length
  ·obtain ⟨x,hx⟩ : ∃ x,ks[k]? = some x := ⟨_,ζe hlt⟩
   obtain ⟨b,off,a1,n1,c1,a2,n2,c2,rfl,hb,d0,d1,d2,d3,KC⟩ := HK.out k x hx
   have e0 := (ζl HB.out hb _).trans d0
   have e1 := (ζl HB.out hb _).trans d1
   have e2 := (ζl HB.out hb _).trans d2
   have e3 := (ζl HB.out hb _).trans d3
   have HS := ζ (sumBy_snoc (c := c) hx)
   have HM := ζ (maxBy_snoc (d := d) hx)
   have hs1 := sumBy_le c ks (k + 1)
   have hs0 := sumBy_le c ks k
   rw [HS.out] at hs1
   have hm0 := maxBy_lt d HD.out k
   have hdx := HD.out x (ζm hx)
   have HB2 := ζ (HB.out.alloc HB.out.size (.cells #[.string x.fact.name,.slice a1 n1 c1,.int .i64 x.rule,.slice a2 n2 c2] 30))
   have KX := ζ (KC _ HB2.out)
   clear d0 d1 d2 d3 KC hx
   obtain ⟨u,hu⟩ : ∃ u,maxBy d (ks.take k) = u := ⟨_,rfl⟩
   obtain ⟨s,hsu⟩ : ∃ s,sumBy c (ks.take k) = s := ⟨_,rfl⟩
   rw [hu] at HM hm0 ⊢
   rw [hsu] at HS hs0 hs1 ⊢
   clear hu hsu
   generalize d x = dx at *
   generalize c x = cx at *
   have hsm : (((1 + s : Nat) : Int) + (cx : Int)) = ((1 + (s + cx) : Nat) : Int) := by omega
   by_cases hgt : u < dx
   ·have g1 : ((u + 1 : Nat) : Int) < (dx : Int) + 1 := by omega
    go_wp2_with (go_at_call 5;refine (KX.out).mono ?_;rintro e w3 ⟨rfl,hb3⟩;have HB3 := ζ (HB2.out.trans (hb3.mono HB2.out.size));clear hb3)
    go_roundw
    case rel => exact ⟨k + 1,by omega,by go_num,by rw [HS.out];exact congrArg _ (by omega),by rw [HM.out];exact congrArg _ (by omega),HB3⟩
    case measure => simp [intOf];omega
   ·have g1 : ¬ ((u + 1 : Nat) : Int) < (dx : Int) + 1 := by omega
    go_wp2_with (go_at_call 5;refine (KX.out).mono ?_;rintro e w3 ⟨rfl,hb3⟩;have HB3 := ζ (HB2.out.trans (hb3.mono HB2.out.size));clear hb3)
    go_roundw
    case rel => exact ⟨k + 1,by omega,by go_num,by rw [HS.out];exact congrArg _ (by omega),by rw [HM.out];exact congrArg _ (by omega),HB3⟩
    case measure => simp [intOf];omega
  ·have htk : ks.take k = ks := List.take_of_length_le (by omega)
   rw [htk]
   go_wp2
   go_ret2
   exact ⟨rfl,HB.out⟩
theorem countCalls7 : ∀ (n : Nat) {S : Nat → Prop} (x : PProof) (nm av kv : Value) (rl : Int) (w : World),RdProofs n S w kv x.kids → cntN (n + 1) x ≤ 1048576 →
 Calls Tryz.prog 5 #[.agg #[nm,av,.int .i64 rl,kv]] w fun e w' => e = .returned (.tuple #[.int .i64 (cntN (n + 1) x : Int),.int .i64 (depN (n + 1) x : Int)]) ∧ Below w.heap.size w w'
 | 0,S,x,nm,av,kv,rl,w,h,hc => by
  obtain ⟨ka,kc,rfl,-,-,-⟩ := id h.form
  have h0 := h.zero
  exact countWalk7 (cntN 0) (depN 0) nm av rl ka kc x.kids w (fun i k hk => by rw [h0] at hk;simp at hk) (by rw [h0];simp) (by rw [h0];simp [sumBy]) (by rw [h0];simp)
 | n + 1,S,x,nm,av,kv,rl,w,h,hc => by
  obtain ⟨ka,kc,rfl,-,-,-⟩ := id h.form
  have hs : sumBy (cntN (n + 1)) x.kids ≤ 1048576 := by
   have h1 : cntN (n + 1 + 1) x = 1 + sumBy (cntN (n + 1)) x.kids := rfl
   omega
  refine countWalk7 (cntN (n + 1)) (depN (n + 1)) nm av rl ka kc x.kids w (fun i k hk => ?_) (Nat.le_trans (sumBy_len n _) hs) hs fun k hk => Nat.le_trans (dep_cnt _ _) (Nat.le_trans (sumBy_mem hk) hs)
  obtain ⟨b,off,av',kv',ha,-,hb,d0,d1,d2,d3,hra,hrk⟩ := h.at hk
  obtain ⟨a1,c1,rfl,-,-,-⟩ := id hra.form
  obtain ⟨a2,c2,rfl,-,-,-⟩ := id hrk.form
  exact ⟨b,off,a1,_,c1,a2,_,c2,ha,hb,d0,d1,d2,d3,fun W hW => countCalls7 n k _ _ _ _ W (RdSlice.agree (RProofN.steady n) (Below.agree hW) hrk) (Nat.le_trans (sumBy_mem (ζm hk)) hs)⟩
end
section
open Go.RowKit
attribute [local go_sem ↓] Go.wp_at_zero Go.wp_at_succ
set_option maxRecDepth 100000 in
set_option maxHeartbeats 0 in
theorem checkRef7 {S S3 S4 S5 : Nat → Prop} (p : List PRule) (v fv : Value) (st : List Int) (q : Int × Int) (l : List PFact) (n : Nat) (x : PProof) (av kv : Value) (w : World) (hS : StrataIs p st q) (h : RdRules S w v p) (hf : RdFacts S3 w fv l) (ha : RdStrs S4 w av x.fact.args) (hk : RdProofs n S5 w kv x.kids) (hs : smallN (n + 1) x) (ht : strN (n + 1) x) (hc : cntN (n + 1) x ≤ 1048576)
 (n1 : p.length ≤ 1048576) (n2 : ∀ r ∈ p,RuleSmall r) (n3 : ∀ r ∈ p,NameSmall r) (n4 : l.length ≤ 1048576) (n5 : FactsSmall l) :
 Calls Tryz.prog 7 #[v,fv,.agg #[.string x.fact.name,av,.int .i64 x.rule,kv]] w fun e w' => e = .returned (.int .i64 (checkN st q.1 p l (n + 1) x)) ∧ Below w.heap.size w w' := by
 obtain ⟨a,c,rfl,-,-,-⟩ := id h.form
 obtain ⟨fa,fc,rfl,-,-,-⟩ := id hf.form
 obtain ⟨aa,ac,rfl,-,-,-⟩ := id ha.form
 obtain ⟨ka,kc,rfl,-,-,-⟩ := id hk.form
 obtain ⟨W0,hW0⟩ : ∃ W0 : World,w.alloc (.cells #[.string x.fact.name,.slice aa x.fact.args.length ac,.int .i64 x.rule,.slice ka x.kids.length kc] 30) = W0 := ⟨_,rfl⟩
 have HB0 := ζ (show Below w.heap.size w W0 by subst hW0;exact (ζb _ _).alloc (ζn _) _)
 have HK0 := ζ (show Blk W0 w.heap.size 30 #[.string x.fact.name,.slice aa x.fact.args.length ac,.int .i64 x.rule,.slice ka x.kids.length kc] by subst hW0;exact Blk.new w _ _)
 have KN := ζ (allRefQ p (.slice a p.length c) (.slice fa l.length fc) st q l W0 hS (h.up HB0.out) (RdFacts.up hf HB0.out) n1 n2 n3 n4 n5)
 have H := ζ h
 have HF := ζ hf
 have HA := ζ ha
 have HKD := ζ hk
 have HSM := ζ hs
 have HST := ζ ht
 have HFO := ζ (naive_follows hS (l := l))
 have N2 := ζ n2
 have N5 := ζ n5
 have E1 := ζ (check_err (st := st) (q := q.1) (p := p) (told := l) (n := n + 1) (x := x))
 have E2 := ζ (check_much (st := st) (q := q.1) (p := p) (told := l) (n := n + 1) (x := x))
 have E3 := ζ (check_one (st := st) (q := q.1) (p := p) (told := l) (n := n + 1) (x := x))
 generalize checkN st q.1 p l (n + 1) x = R at *
 clear h hf ha hk hs ht n2 n3 n5 hS
 generalize naiveP st q.1 p l = r at *
 obtain ⟨m,e0⟩ := r
 dsimp only at *
 by_cases he : e0 = 0
 case neg =>
  have g1 : (e0 != 0) = true := by simpa using he
  have HE := ζ (E1.out he)
  clear he E1 E2 E3 HFO
  go_enter Tryz.func7,Tryz.ntmps7
  go_wp2_with (go_at_call 13;refine (KN.out).mono ?_;rintro e w2 ⟨⟨a2,c2,rfl,hr2⟩,hb2⟩;have HB2 := ζ (HB0.out.trans (hb2.mono HB0.out.size));clear hr2 hb2)
  go_ret
  refine ⟨?_,HB2.out⟩
  rw [HE.out]
  rfl
 subst he
 obtain ⟨hF,hset,hR⟩ := HFO.out rfl
 have HFL := ζ hF
 have HPT := ζ (rules_terms hR)
 clear hF hset hR HFO E1
 have KZ := ζ (fun W (hW : Below w.heap.size w W) => countCalls7 n x (.string x.fact.name) (.slice aa x.fact.args.length ac) (.slice ka x.kids.length kc) x.rule W (RdSlice.agree (RProofN.steady n) (Below.agree hW) HKD.out) hc)
 generalize hcn : cntN (n + 1) x = cn at *
 generalize hdn : depN (n + 1) x = dn at *
 by_cases hbig : 400 < cn ∨ 60 < dn
 ·have HE := ζ (E2.out rfl hbig)
  have hcs : (400 : Int) < (cn : Int) ∨ ¬ (400 : Int) < (cn : Int) ∧ (60 : Int) < (dn : Int) := by omega
  clear hbig E2 E3 hcn hdn
  rcases hcs with h1 | ⟨h1,h2⟩
  all_goals
   go_enter Tryz.func7,Tryz.ntmps7
   go_wp2_with (first
    | (go_at_call 5;have hh := HB2.out;clear hh;refine (KZ.out _ HB2.out).mono ?_;rintro e w3 ⟨rfl,hb3⟩;have HB3 := ζ (HB2.out.trans (hb3.mono HB2.out.size));clear hb3)
    | (go_at_call 13;refine (KN.out).mono ?_;rintro e w2 ⟨⟨a2,c2,rfl,hr2⟩,hb2⟩;have HB2 := ζ (HB0.out.trans (hb2.mono HB0.out.size));have hk2 := HK0.out.below hb2 HK0.out.lt;have k0 := hk2.cell 0;have k1 := hk2.cell 1;have k2 := hk2.cell 2;have k3 := hk2.cell 3;simp only [ζc] at k0 k1 k2 k3;clear hr2 hb2 hk2))
   go_ret
   refine ⟨?_,HB3.out⟩
   rw [HE.out]
   rfl
 have HE := ζ (E3.out rfl hbig)
 have h1 : ¬ (400 : Int) < (cn : Int) := by omega
 have h2 : ¬ (60 : Int) < (dn : Int) := by omega
 clear hbig E2 E3 hcn hdn
 go_enter Tryz.func7,Tryz.ntmps7
 go_wp2_with (first
  | (go_at_call 14;have hh := HB3.out;clear hh;refine (oneRefCalls n1 HPT.out N2.out n4 (fun z hz => (N5.out z hz).1) (Nat.le_trans HFL.out.len (by decide)) (fun z hz => by have := (wrongF_zero.1 (HFL.out.good z hz)).2.1;omega) n _ _ _ _ _ x _ (H.out.up HB3.out) (RdFacts.up HF.out HB3.out) (RdFacts.up HR2.out hb3) (HA.out.up HB3.out) (RdSlice.agree (RProofN.steady n) (Below.agree HB3.out) HKD.out) HSM.out HST.out).mono ?_;rintro e w5 ⟨rfl,hb5⟩;have HB5 := ζ (HB3.out.trans (hb5.mono HB3.out.size));clear hb5)
  | (go_at_call 5;have hh := HB2.out;clear hh;refine (KZ.out _ HB2.out).mono ?_;rintro e w3 ⟨rfl,hb3⟩;have HB3 := ζ (HB2.out.trans (hb3.mono HB2.out.size));have hk3 := HK2.out.below hb3 HK2.out.lt;have k0 := hk3.cell 0;have k1 := hk3.cell 1;have k2 := hk3.cell 2;have k3 := hk3.cell 3;simp only [ζc] at k0 k1 k2 k3;clear hk3)
  | (go_at_call 13;refine (KN.out).mono ?_;rintro e w2 ⟨⟨a2,c2,rfl,hr2⟩,hb2⟩;have HB2 := ζ (HB0.out.trans (hb2.mono HB0.out.size));have HR2 := ζ hr2;have HK2 := ζ (HK0.out.below hb2 HK0.out.lt);have k0 := HK2.out.cell 0;have k1 := HK2.out.cell 1;have k2 := HK2.out.cell 2;have k3 := HK2.out.cell 3;simp only [ζc] at k0 k1 k2 k3;clear hr2 hb2))
 go_ret
 refine ⟨?_,HB5.out⟩
 rw [HE.out]
 rfl
end
section
open Go.RowKit
set_option maxRecDepth 100000 in
set_option maxHeartbeats 0 in
theorem sameProofWalk {S T : Nat → Prop} (f : PFact) (rl : Int) (ks : List PProof) (av bv : Value) (ka kb : Option Addr) (kc kd : Nat) (w : World) (ha : RdStrs S w av f.args) (hb : RdStrs T w bv f.args)
 (K : ∀ (i : Nat) (k : PProof),ks[i]? = some k → ∃ b off a1 n1 c1 a2 n2 c2 b' off' a1' n1' c1' a2' n2' c2',ka = some ⟨b,off,none⟩ ∧ b < w.heap.size ∧ w.cell? ⟨b,off + i * 4,none⟩ = some (.string k.fact.name) ∧ w.cell? ⟨b,off + i * 4 + 1,none⟩ = some (.slice a1 n1 c1) ∧ w.cell? ⟨b,off + i * 4 + 2,none⟩ = some (.int .i64 k.rule) ∧ w.cell? ⟨b,off + i * 4 + 3,none⟩ = some (.slice a2 n2 c2) ∧
  kb = some ⟨b',off',none⟩ ∧ b' < w.heap.size ∧ w.cell? ⟨b',off' + i * 4,none⟩ = some (.string k.fact.name) ∧ w.cell? ⟨b',off' + i * 4 + 1,none⟩ = some (.slice a1' n1' c1') ∧ w.cell? ⟨b',off' + i * 4 + 2,none⟩ = some (.int .i64 k.rule) ∧ w.cell? ⟨b',off' + i * 4 + 3,none⟩ = some (.slice a2' n2' c2') ∧
  ∀ W,Below w.heap.size w W → Calls Tryz.prog 10 #[.agg #[.string k.fact.name,.slice a1 n1 c1,.int .i64 k.rule,.slice a2 n2 c2],.agg #[.string k.fact.name,.slice a1' n1' c1',.int .i64 k.rule,.slice a2' n2' c2']] W fun e w' => e = .returned (.bool true) ∧ Below W.heap.size W w')
 (hn : ks.length ≤ 1048576) (hf : f.args.length ≤ 1048576) :
 Calls Tryz.prog 10 #[.agg #[.string f.name,av,.int .i64 rl,.slice ka ks.length kc],.agg #[.string f.name,bv,.int .i64 rl,.slice kb ks.length kd]] w fun e w' => e = .returned (.bool true) ∧ Below w.heap.size w w' := by
 obtain ⟨aa,ac,rfl,-,-,-⟩ := id ha.form
 obtain ⟨ba,bc,rfl,-,-,-⟩ := id hb.form
 obtain ⟨W0,hW0⟩ : ∃ W0 : World,(w.alloc (.cells #[.string f.name,.slice aa f.args.length ac,.int .i64 rl,.slice ka ks.length kc] 30)).alloc (.cells #[.string f.name,.slice ba f.args.length bc,.int .i64 rl,.slice kb ks.length kd] 30) = W0 := ⟨_,rfl⟩
 have HB0 := ζ (show Below w.heap.size w W0 by subst hW0;exact ((ζb _ _).alloc (ζn _) _).alloc (by simp) _)
 have HX0 := ζ (show Blk W0 w.heap.size 30 #[.string f.name,.slice aa f.args.length ac,.int .i64 rl,.slice ka ks.length kc] by subst hW0;exact (Blk.new w _ _).alloc _)
 have HY0 := ζ (show Blk W0 (w.heap.size + 1) 30 #[.string f.name,.slice ba f.args.length bc,.int .i64 rl,.slice kb ks.length kd] by subst hW0;exact heap_new_at (by simp))
 have KE := ζ (equalRef f f (.slice aa f.args.length ac) (.slice ba f.args.length bc) W0 (ha.up HB0.out) (hb.up HB0.out) (Nat.le_trans hf (by decide)) (Nat.le_trans hf (by decide)))
 have HK := ζ K
 have k0 := HX0.out.cell 0;have k1 := HX0.out.cell 1
 have y0 := HY0.out.cell 0;have y1 := HY0.out.cell 1
 simp only [ζc] at k0 k1 y0 y1
 clear K ha hb
 have hde : decide (f = f) = true := by simp
 rw [hde] at KE
 clear hde
 go_enter Tryz.func10,Tryz.ntmps10
 go_wp2_with (go_at_call 28;refine (KE.out).mono ?_;rintro e w1 ⟨rfl,hb1⟩;have hb1' := hb1.below;have HB1 := ζ (HB0.out.trans (hb1'.mono HB0.out.size));have HX1 := ζ (HX0.out.below hb1' HX0.out.lt);have HY1 := ζ (HY0.out.below hb1' HY0.out.lt);have x2 := HX1.out.cell 2;have x3 := HX1.out.cell 3;have z2 := HY1.out.cell 2;have z3 := HY1.out.cell 3;simp only [ζc] at x2 x3 z2 z3;clear hb1 hb1')
 clear x2 x3 z2 z3 k0 k1 y0 y1
 go_loopw [31] (fun i wr => ∃ k : Nat,k ≤ ks.length ∧ i = .int .i64 k ∧ Hid (Below w.heap.size w wr) ∧ Hid (Blk wr w.heap.size 30 #[.string f.name,.slice aa f.args.length ac,.int .i64 rl,.slice ka ks.length kc]) ∧ Hid (Blk wr (w.heap.size + 1) 30 #[.string f.name,.slice ba f.args.length bc,.int .i64 rl,.slice kb ks.length kd])) (fun i _ => ks.length - (intOf i).toNat)
 case atStart => exact ⟨0,Nat.zero_le _,rfl,HB1,HX1,HY1⟩
 case round =>
  clear HB1 HX1 HY1
  obtain ⟨k,hk,rfl,HB,HX,HY⟩ := hrel
  by_cases hlt : k < ks.length
  ·obtain ⟨x,hx⟩ : ∃ x,ks[k]? = some x := ⟨_,ζe hlt⟩
   obtain ⟨b,off,a1,n1,c1,a2,n2,c2,b',off',a1',n1',c1',a2',n2',c2',rfl,hb,d0,d1,d2,d3,rfl,hb',f0,f1,f2,f3,KC⟩ := HK.out k x hx
   have e0 := (ζl HB.out hb _).trans d0
   have e1 := (ζl HB.out hb _).trans d1
   have e2 := (ζl HB.out hb _).trans d2
   have e3 := (ζl HB.out hb _).trans d3
   have g0 := (ζl HB.out hb' _).trans f0
   have g1 := (ζl HB.out hb' _).trans f1
   have g2 := (ζl HB.out hb' _).trans f2
   have g3 := (ζl HB.out hb' _).trans f3
   have x3 := HX.out.cell 3;have y3 := HY.out.cell 3
   simp only [ζc] at x3 y3
   have KX := ζ (KC _ HB.out.drew)
   have hsz := HB.out.size
   clear d0 d1 d2 d3 f0 f1 f2 f3 KC hx
   go_wp2
   go_region_held3 (fun w' => w'.cell? ⟨w.heap.size,3,none⟩ = some (.slice (some ⟨b,off,none⟩) ks.length kc) ∧ w'.cell? ⟨w.heap.size + 1,3,none⟩ = some (.slice (some ⟨b',off',none⟩) ks.length kd) ∧ w'.cell? ⟨b,off + k * 4,none⟩ = some (.string x.fact.name) ∧ w'.cell? ⟨b,off + k * 4 + 1,none⟩ = some (.slice a1 n1 c1) ∧ w'.cell? ⟨b,off + k * 4 + 2,none⟩ = some (.int .i64 x.rule) ∧ w'.cell? ⟨b,off + k * 4 + 3,none⟩ = some (.slice a2 n2 c2) ∧ w'.cell? ⟨b',off' + k * 4,none⟩ = some (.string x.fact.name) ∧ w'.cell? ⟨b',off' + k * 4 + 1,none⟩ = some (.slice a1' n1' c1') ∧ w'.cell? ⟨b',off' + k * 4 + 2,none⟩ = some (.int .i64 x.rule) ∧ w'.cell? ⟨b',off' + k * 4 + 3,none⟩ = some (.slice a2' n2' c2'))
    (first | (with_reducible exact h0) | (with_reducible exact ⟨x3,y3,e0,e1,e2,e3,g0,g1,g2,g3⟩) | go_keep)
    (first | (go_at_call 10;(with_reducible refine (KX.out).mono ?_);rintro e w3 ⟨rfl,hb3⟩;have hb3' := (ζb wr.heap.size wr).drew.trans hb3;have HB3 := ζ (HB.out.trans (hb3'.mono hsz));have HX3 := ζ (HX.out.below hb3' HX.out.lt);have HY3 := ζ (HY.out.below hb3' HY.out.lt);have h3 := HX3.out.cell 3;have h4 := HY3.out.cell 3;simp only [ζc] at h3 h4;have hbl := Nat.lt_of_lt_of_le hb hsz;have hbl' := Nat.lt_of_lt_of_le hb' hsz;have h0 := And.intro h3 (And.intro h4 (And.intro ((ζl hb3' hbl _).trans e0) (And.intro ((ζl hb3' hbl _).trans e1) (And.intro ((ζl hb3' hbl _).trans e2) (And.intro ((ζl hb3' hbl _).trans e3) (And.intro ((ζl hb3' hbl' _).trans g0) (And.intro ((ζl hb3' hbl' _).trans g1) (And.intro ((ζl hb3' hbl' _).trans g2) ((ζl hb3' hbl' _).trans g3)))))))));clear hb3 hb3' h3 h4))
   go_wp2
   go_roundw
   case rel => exact ⟨k + 1,by omega,by go_num,HB3,HX3,HY3⟩
   case measure => simp [intOf];omega
  ·go_wp2
   go_ret
   exact ⟨rfl,HB.out⟩
theorem sameProofRef : ∀ (n : Nat) {S S2 T T2 : Nat → Prop} (x : PProof) (av bv kv lv : Value) (w : World),RdStrs S w av x.fact.args → RdStrs T w bv x.fact.args → RdProofs n S2 w kv x.kids → RdProofs n T2 w lv x.kids → smallN (n + 1) x →
 Calls Tryz.prog 10 #[.agg #[.string x.fact.name,av,.int .i64 x.rule,kv],.agg #[.string x.fact.name,bv,.int .i64 x.rule,lv]] w fun e w' => e = .returned (.bool true) ∧ Below w.heap.size w w'
 | 0,S,S2,T,T2,x,av,bv,kv,lv,w,ha,hb,h,h',hs => by
  obtain ⟨ka,kc,rfl,-,-,-⟩ := id h.form
  obtain ⟨kb,kd,rfl,-,-,-⟩ := id h'.form
  have h0 := h.zero
  exact sameProofWalk x.fact x.rule x.kids av bv ka kb kc kd w ha hb (fun i k hk => by rw [h0] at hk;simp at hk) hs.2.1 hs.1
 | n + 1,S,S2,T,T2,x,av,bv,kv,lv,w,ha,hb,h,h',hs => by
  obtain ⟨ka,kc,rfl,-,-,-⟩ := id h.form
  obtain ⟨kb,kd,rfl,-,-,-⟩ := id h'.form
  refine sameProofWalk x.fact x.rule x.kids av bv ka kb kc kd w ha hb (fun i k hk => ?_) hs.2.1 hs.1
  obtain ⟨b,off,av1,kv1,e1,-,hb1,d0,d1,d2,d3,hra,hrk⟩ := RdProofs.at h hk
  obtain ⟨b',off',av2,kv2,e1',-,hb1',f0,f1,f2,f3,hra',hrk'⟩ := RdProofs.at h' hk
  obtain ⟨a1,c1,rfl,-,-,-⟩ := id hra.form
  obtain ⟨a2,c2,rfl,-,-,-⟩ := id hrk.form
  obtain ⟨a3,c3,rfl,-,-,-⟩ := id hra'.form
  obtain ⟨a4,c4,rfl,-,-,-⟩ := id hrk'.form
  have hks := hs.2.2 k (ζm hk)
  exact ⟨b,off,a1,_,c1,a2,_,c2,b',off',a3,_,c3,a4,_,c4,e1,hb1,d0,d1,d2,d3,e1',hb1',f0,f1,f2,f3,fun W hW => sameProofRef n k _ _ _ _ W (hra.up hW) (hra'.up hW) (RdSlice.agree (RProofN.steady n) (Below.agree hW) hrk) (RdSlice.agree (RProofN.steady n) (Below.agree hW) hrk') hks⟩
end
section
theorem valT_sub (s b : Binds) (t : PTerm) : valT b (subT s t) = valT (s ++ b) t := by
 unfold subT
 by_cases ht : t.var = true
 ·rw [if_pos ht]
  cases hg : getB t.name s with
  | none => dsimp only;unfold valT;rw [if_pos ht,if_pos ht,getB_append,hg];rfl
  | some n => dsimp only;unfold valT;rw [if_neg (by simp),if_pos ht,getB_append,hg];rfl
 ·rw [if_neg ht];unfold valT;rw [if_neg ht,if_neg ht]
theorem fillArgs_sub (s b : Binds) : ∀ ts : List PTerm,fillArgs b (ts.map (subT s)) = fillArgs (s ++ b) ts
 | [] => rfl
 | t :: ts => by rw [List.map_cons,fillArgs,fillArgs,valT_sub,fillArgs_sub s b ts]
theorem fillP_sub (s b : Binds) (a : PAtom) : fillP (subA s a) b = fillP a (s ++ b) := by
 unfold fillP subA
 rw [fillArgs_sub]
theorem kidsOf_sub (s b : Binds) (l : List PAtom) : kidsOf (subBody s l) b = kidsOf l (s ++ b) := by
 unfold kidsOf subBody
 rw [List.filterMap_map]
 congr 1
 funext a
 show (if (subA s a).neg then none else fillP (subA s a) b) = _
 rw [fillP_sub]
 rfl
theorem bodyMeet_full {e : Binds} : ∀ (body : List PAtom) (b : Binds),Nd b → SubB b e → (∀ a ∈ body,a.neg = false → ∃ f,fillP a e = some f) →
 (bodyMeet body (kidsOf body e) b).2 = ([],0) ∧ SubB (bodyMeet body (kidsOf body e) b).1 e
 | [],b,_,hs,_ => ⟨rfl,hs⟩
 | a :: l,b,hd,hs,hf => by
  rw [bodyMeet_cons]
  have ih := fun b hd hs => bodyMeet_full (e := e) l b hd hs (fun x hx => hf x (by simp [hx]))
  by_cases hn : a.neg = true
  ·rw [if_pos hn]
   have hk : kidsOf (a :: l) e = kidsOf l e := by unfold kidsOf;rw [List.filterMap_cons,if_pos hn]
   rw [hk]
   exact ih b hd hs
  ·rw [if_neg hn]
   obtain ⟨f,hfe⟩ := hf a (by simp) (by simpa using hn)
   have hk : kidsOf (a :: l) e = f :: kidsOf l e := by unfold kidsOf;rw [List.filterMap_cons,if_neg hn,hfe]
   rw [hk]
   dsimp only
   obtain ⟨k1,k2⟩ := fillP_name hfe
   obtain ⟨m,hm,hsm⟩ := meetL_full a.terms f.args b e k2 hs
   have hmp : meetP a f b = some m := by unfold meetP;rw [if_pos ⟨k1,fillArgs_len k2⟩];exact hm
   rw [hmp]
   exact ih m (meetP_spec hd hmp).2.1 hsm
theorem ruleG_right {age : Str → Option Int} {M : List PFact} {r : PRule} {f : PFact} {ks : List PFact} (hR : ruleBad r = 0) (h : ruleG age M r f = some ks) {x : PProof} (hx : x.fact = f) (hk : x.kids.map PProof.fact = ks) : ruleOf r M x = 0 := by
 unfold ruleG at h
 split at h
 ·cases h
 ·rename_i s hs
  split at h
  ·cases h
  ·rename_i h0
   obtain ⟨b,hf,rfl⟩ := Option.map_eq_some_iff.1 h
   have hm := List.mem_of_find?_eq_some hf
   have hso : ∀ a ∈ r.body,∃ g,fillP a (s ++ b) = some g ∧ memF g M = !a.neg := fun a ha => by
    obtain ⟨g,h1,h2⟩ := all_so hm (a := subA s a) (List.mem_map.2 ⟨a,ha,rfl⟩)
    rw [fillP_sub] at h1
    exact ⟨g,h1,h2⟩
   obtain ⟨j1,j2,-⟩ := meetP_spec (by simp [Nd,Vs]) hs
   obtain ⟨i1,i2⟩ := bodyMeet_full (e := s ++ b) r.body s j2 SubB.append (fun a ha _ => by obtain ⟨g,hg,-⟩ := hso a ha;exact ⟨g,hg⟩)
   unfold ruleOf
   rw [hx,hs,hk,kidsOf_sub]
   dsimp only
   have e1 : (bodyMeet r.body (kidsOf r.body (s ++ b)) s).2.2 = 0 := by rw [i1]
   have e2 : (bodyMeet r.body (kidsOf r.body (s ++ b)) s).2.1 = [] := by rw [i1]
   rw [if_neg (by simp [e1]),if_neg (by simp [e2]),if_neg]
   rw [Bool.not_eq_true,List.any_eq_false]
   intro a ha
   unfold badNeg
   by_cases hn : a.neg = true
   ·obtain ⟨-,i4,i5⟩ := bodyMeet_spec r.body (kidsOf r.body (s ++ b)) s j2 e1 e2
    have hsame : ∀ v ∈ varsOf a,getB v (bodyMeet r.body (kidsOf r.body (s ++ b)) s).1 = getB v (s ++ b) := fun v hv => by
     obtain ⟨a2,ha2,hn2,hv2⟩ := (mem_heldOf v r.body).1 (body_free (ruleBad_zero hR).2.2.1 ha hv)
     obtain ⟨g,-,hg⟩ := i5 a2 ha2 hn2
     have h3 := fillP_vars hg v hv2
     cases hgb : getB v (bodyMeet r.body (kidsOf r.body (s ++ b)) s).1 with
     | none => exact absurd h3 (getB_none.1 hgb)
     | some n => exact (i2 v n hgb).symm
    obtain ⟨g,hg,hgm⟩ := hso a ha
    rw [fillP_congr hsame,hg,hn]
    rw [hn] at hgm
    simpa using hgm
   ·have hn' : a.neg = false := by simpa using hn
    rw [hn']
    simp
theorem pickRule_some {age : Str → Option Int} {M : List PFact} {f : PFact} : ∀ {p : List PRule} {i j : Nat} {ks : List PFact},pickRule age M f i p = some (j,ks) → i ≤ j ∧ ∃ r,p[j - i]? = some r ∧ ruleG age M r f = some ks
 | [],i,j,ks,h => by cases h
 | r :: p,i,j,ks,h => by
  rw [pickRule] at h
  cases hr : ruleG age M r f with
  | some l =>
   rw [hr] at h
   obtain ⟨rfl,rfl⟩ : i = j ∧ l = ks := by simpa using h
   exact ⟨ζn _,r,by simp,hr⟩
  | none =>
   rw [hr] at h
   obtain ⟨h1,r',h2,h3⟩ := pickRule_some h
   exact ⟨by omega,r',by rw [show j - i = (j - (i + 1)) + 1 by omega];exact h2,h3⟩
structure Fine (p : List PRule) (told M : List PFact) (m d : Nat) (x : PProof) : Prop where
 one : oneN p told M m x = 0
 dep : depN m x + d ≤ 61
 small : smallN m x
theorem firstErr_all {f : PProof → Int} : ∀ {l : List PProof},(∀ x ∈ l,f x = 0) → firstErr f l = 0
 | [],_ => rfl
 | x :: l,h => by rw [firstErr,if_neg (by simpa using h x (by simp))];exact firstErr_all fun y hy => h y (by simp [hy])
theorem kids_fine {p : List PRule} {told M : List PFact} {F : Nat → PFact → Option PProof × Nat} {n d : Nat}
 (K : ∀ s k x,wrongF k = 0 → (F s k).1 = some x → x.fact = k ∧ ∀ m,n ≤ m → Fine p told M m d x ∧ (F s k).2 = s + cntN m x) :
 ∀ (ks : List PFact) (xs : List PProof) (s : Nat) (ys : List PProof),(∀ k ∈ ks,wrongF k = 0) → (kidsAcc F xs s ks).1 = some ys →
  ∃ zs,ys = xs ++ zs ∧ zs.map PProof.fact = ks ∧ ∀ m,n ≤ m → (∀ z ∈ zs,Fine p told M m d z) ∧ (kidsAcc F xs s ks).2 = s + (zs.map (cntN m)).sum
 | [],xs,s,ys,_,h => ⟨[],by obtain rfl := Option.some.inj h;simp,rfl,fun m _ => ⟨by simp,by simp [kidsAcc]⟩⟩
 | k :: ks,xs,s,ys,hw,h => by
  rw [kidsAcc] at h ⊢
  have h1 := K s k
  generalize F s k = y at *
  obtain ⟨yo,s'⟩ := y
  cases yo with
  | none => cases h
  | some x =>
   dsimp only at h h1 ⊢
   obtain ⟨e,hx⟩ := h1 x (hw k (by simp)) rfl
   obtain ⟨zs,rfl,hz,hm⟩ := kids_fine K ks _ s' ys (fun k hk => hw k (by simp [hk])) h
   refine ⟨x :: zs,by simp,by rw [List.map_cons,e,hz],fun m hnm => ⟨fun z hzm => ?_,?_⟩⟩
   ·rcases List.mem_cons.1 hzm with rfl | hzm
    ·exact (hx m hnm).1
    ·exact (hm m hnm).1 z hzm
   ·have h2 := (hx m hnm).2
    rw [(hm m hnm).2,List.map_cons,List.sum_cons]
    omega
theorem foldMax_le {B : Nat} : ∀ (l : List Nat) (z : Nat),z ≤ B → (∀ x ∈ l,x ≤ B) → l.foldl max z ≤ B
 | [],z,hz,_ => hz
 | x :: l,z,hz,h => by rw [List.foldl_cons];exact foldMax_le l _ (Nat.max_le.2 ⟨hz,h x (by simp)⟩) fun y hy => h y (by simp [hy])
theorem findN_fine {p : List PRule} {told M : List PFact} {age : Str → Option Int} (hR : ∀ r ∈ p,ruleBad r = 0) (hM : Good M) : ∀ (n s : Nat) (f : PFact) (d : Nat) (x : PProof),wrongF f = 0 → (findN p told M age n s f d).1 = some x →
 x.fact = f ∧ ∀ m,n ≤ m → Fine p told M m d x ∧ (findN p told M age n s f d).2 = s + cntN m x
 | 0,s,f,d,x,_,h => by cases h
 | n + 1,s,f,d,x,hf,h => by
  have hal : f.args.length ≤ 1048576 := Nat.le_trans (wrongF_zero.1 hf).2.1 (by decide)
  rw [findN] at h ⊢
  split at h
  ·cases h
  ·rename_i hb
   rw [if_neg hb]
   split at h
   ·rename_i hm
    rw [if_pos hm]
    obtain rfl := Option.some.inj h
    refine ⟨rfl,fun m hnm => ?_⟩
    obtain ⟨m,rfl⟩ : ∃ j,m = j + 1 := ⟨m - 1,by omega⟩
    refine ⟨⟨?_,?_,hal,Nat.zero_le _,fun k hk => by cases hk⟩,rfl⟩
    ·show (if (-1 : Int) < 0 then leafBad told (.mk f (-1) []) else _) = 0
     rw [if_pos (by decide)]
     unfold leafBad
     rw [if_neg]
     rintro (h1 | h1 | h1)
     ·exact h1 rfl
     ·exact h1 rfl
     ·have h2 : memF f told = false := h1
      rw [hm] at h2;cases h2
    ·show 0 + 1 + d ≤ 61
     omega
   ·rename_i hm
    rw [if_neg hm]
    cases hp : pickRule age M f 0 p with
    | none => rw [hp] at h;cases h
    | some z =>
     obtain ⟨i,ks⟩ := z
     rw [hp] at h
     dsimp only at h ⊢
     obtain ⟨-,r,hr,hg⟩ := pickRule_some hp
     rw [Nat.sub_zero] at hr
     have hrp := ζm hr
     have hgood := ruleG_good hM (body_atoms (ruleBad_zero (hR r hrp)).2.2.1) hg
     have h2 := kids_fine (p := p) (told := told) (M := M) (F := fun s k => findN p told M age n s k (d + 1)) (n := n) (d := d + 1) (fun s k x hk hx => findN_fine hR hM n s k (d + 1) x hk hx) ks [] (s + 1)
     generalize kidsAcc (fun s k => findN p told M age n s k (d + 1)) [] (s + 1) ks = T at *
     obtain ⟨To,Ts⟩ := T
     cases To with
     | none => cases h
     | some ys =>
      obtain rfl := Option.some.inj h
      obtain ⟨zs,hy,hz,hmz⟩ := h2 ys hgood.2 rfl
      rw [List.nil_append] at hy
      subst hy
      refine ⟨rfl,fun m hnm => ?_⟩
      obtain ⟨m,rfl⟩ : ∃ j,m = j + 1 := ⟨m - 1,by omega⟩
      obtain ⟨h3,h4⟩ := hmz m (by omega)
      have h4' : Ts = s + 1 + (ys.map (cntN m)).sum := h4
      have hlen : ys.length = ks.length := by rw [← hz,List.length_map]
      refine ⟨⟨?_,?_,hal,?_,fun k hk => (h3 k hk).small⟩,?_⟩
      ·have hi : ¬ ((i : Int) < 0) := by omega
       show (if (i : Int) < 0 then _ else match p[(i : Int).toNat]? with
        | none => 1
        | some r => if ruleOf r M (.mk f i ys) ≠ 0 then ruleOf r M (.mk f i ys) else firstErr (oneN p told M m) ys) = 0
       rw [if_neg hi,Int.toNat_natCast,hr]
       dsimp only
       rw [if_neg (by simpa using ruleG_right (hR r hrp) hg (x := .mk f i ys) rfl hz)]
       exact firstErr_all fun k hk => (h3 k hk).one
      ·show (ys.map (depN m)).foldl max 0 + 1 + d ≤ 61
       have h5 := foldMax_le (B := 60 - d) (ys.map (depN m)) 0 (Nat.zero_le _) fun y hy => by
        obtain ⟨k,hk,rfl⟩ := List.mem_map.1 hy
        have := (h3 k hk).dep
        omega
       omega
      ·show ys.length ≤ 1048576
       omega
      ·show Ts = s + (1 + (ys.map (cntN m)).sum)
       omega
theorem prove_right {st : List Int} {q : Int × Int} {p : List PRule} {l : List PFact} {f : PFact} {x : PProof} (hS : StrataIs p st q) (h : (proveP st q.1 p l f).1 = some x) {m : Nat} (hm : 61 ≤ m) :
 x.fact = f ∧ checkN st q.1 p l m x = 0 ∧ cntN m x ≤ 400 ∧ smallN m x ∧ (proveP st q.1 p l f).2 = 0 := by
 unfold proveP at h ⊢
 split at h
 ·cases h
 ·rename_i hq
  rw [if_neg hq]
  split at h
  ·cases h
  ·rename_i hn
   rw [if_neg hn]
   split at h
   ·cases h
   ·rename_i hw
    rw [if_neg hw]
    split at h
    ·cases h
    ·rename_i hme
     rw [if_neg hme]
     have hn' : (naiveP st q.1 p l).2 = 0 := Classical.not_not.1 hn
     obtain ⟨hF,hset,hR⟩ := naive_follows hS hn'
     have hMG : Good (naiveP st q.1 p l).1 := good_of (by rw [hF.set])
     have h3 := findN_fine (told := l) (age := agesP st p l) hR hMG 61 0 f 1
     have h4 := findN_le (p := p) (told := l) (M := (naiveP st q.1 p l).1) (age := agesP st p l) 61 0 f 1
     generalize findN p l (naiveP st q.1 p l).1 (agesP st p l) 61 0 f 1 = y at *
     obtain ⟨yo,ys⟩ := y
     cases yo with
     | none => cases h
     | some y =>
      obtain rfl := Option.some.inj h
      obtain ⟨hx,h5⟩ := h3 y (Classical.not_not.1 hw) rfl
      obtain ⟨h6,h7⟩ := h5 m hm
      have h8 := h4 y (Nat.zero_le _) rfl
      dsimp only at h7 h8
      have hc : cntN m y ≤ 400 := by omega
      refine ⟨hx,?_,hc,h6.small,rfl⟩
      unfold checkN
      rw [if_neg hn,if_neg (by have := h6.dep;omega)]
      exact h6.one
end
section
open Go.RowKit Go.ChangeShapes Go.WideShapes Go.Deep
theorem slice_below {α : Type} {P : Program} {t e : TypeId} {k : Nat} {R : Reader α} {size : α → Nat} (hcells : P.cellsOf e = k) (hpos : 0 < k) (ht : P.underlying t = some (.slice e)) {H : Type} {enc : TypeId × Value → H} {w : World} {n : Nat} {cs : List Value} {x : DataW H × List MemPlace}
 (hop : ∀ (n' : Nat) (cs' : List Value) (z : DataW H × List MemPlace),SizeOf.sizeOf z.1 < SizeOf.sizeOf x.1 → DataW.trod enc P w 0 (fun _ => true) true n' e cs' = some z → ∃ y,R (fun _ => True) w cs' y ∧ size y ≤ Rows.uptoBulk z.1)
 (hx : DataW.trod enc P w 0 (fun _ => true) true n t cs = some x) : ∃ v l,cs = [v] ∧ RdSlice k R (fun _ => True) w v l ∧ sizeL size l ≤ Rows.uptoBulk x.1 := by
 rcases open_slice ht hx with ⟨rfl,rfl⟩ | ⟨a,len,cap,m,n',D,Pl,rfl,-,hl,hm,hmm,rfl,hi⟩
 ·exact ⟨_,[],rfl,⟨none,0,rfl,ζn _,Nat.zero_le _,fun _ => rfl,fun i x hx => by simp at hx⟩,by simp [sizeL,Rows.uptoBulk]⟩
 ·simp only [if_true] at hmm
  subst hmm
  have main : ∀ j,j ≤ len → ∃ l : List α,l.length = j ∧ (∀ i y,l[i]? = some y → ∃ cs',w.cells? 0 (a.add (i * P.cellsOf e)) (P.cellsOf e) = some cs' ∧ R (fun _ => True) w cs' y) ∧ (l.map size).sum ≤ Rows.uptoBulkAll ((List.range j).map D) := by
   intro j
   induction j with
   | zero => exact fun _ => ⟨[],rfl,fun i y hy => by simp at hy,by simp⟩
   | succ j ih =>
    intro hj
    obtain ⟨l,h1,h2,h3⟩ := ih (by omega)
    obtain ⟨cs',g1,g2⟩ := hi j (by omega)
    obtain ⟨y,r1,r2⟩ := hop _ cs' (D j,Pl j) (by have h1 := List.sizeOf_lt_of_mem (List.mem_map_of_mem (f := D) (List.mem_range.2 (show j < len by omega)));simp only [DataW.slice.sizeOf_spec];omega) g2
    refine ⟨l ++ [y],by simp [h1],fun i z hz => ?_,?_⟩
    ·by_cases hij : i < j
     ·rw [List.getElem?_append_left (by omega)] at hz;exact h2 i z hz
     ·rw [List.getElem?_append_right (by omega)] at hz
      have : i - l.length = 0 := by
       have := (List.getElem?_eq_some_iff.1 hz).1
       simp at this;omega
      rw [this] at hz
      obtain rfl : y = z := by simpa using hz
      obtain rfl : i = j := by omega
      exact ⟨cs',g1,r1⟩
    ·rw [List.range_succ,List.map_append (f := D),bulk_append,List.map_append,List.sum_append]
     simp [Rows.uptoBulkAll]
     simp at r2
     omega
  obtain ⟨l,h1,h2,h3⟩ := main len (ζn _)
  refine ⟨_,l,rfl,⟨some a,m,by rw [h1],by omega,hm,(fun e => by cases e),fun i y hy => ?_⟩,by simp only [sizeL,Rows.uptoBulk];omega⟩
  obtain ⟨cs',g1,g2⟩ := h2 i y hy
  obtain ⟨-,hlen,hget⟩ := World.cells?_some g1
  rw [hcells] at hlen hget
  have hk := hpos
  obtain ⟨b,off,spot⟩ := a
  have hspot : spot = none ∧ b < w.heap.size := by
   obtain ⟨y0,hy0⟩ : ∃ y0,l[0]? = some y0 := ⟨_,ζe (by have := (List.getElem?_eq_some_iff.1 hy).1;omega)⟩
   obtain ⟨cs0,g3,-⟩ := h2 0 y0 hy0
   obtain ⟨-,hlen0,hget0⟩ := World.cells?_some g3
   rw [hcells] at hlen0 hget0
   have h0 := hget0 0 hk
   rw [ζe (by omega)] at h0
   have := cell_spot h0
   simpa [Addr.add] using this
  obtain ⟨rfl,hb⟩ := hspot
  refine ⟨b,off,cs',rfl,trivial,hb,hlen,fun j u hu => ?_,g2⟩
  ·have hj : j < k := by rw [← hlen];exact (List.getElem?_eq_some_iff.1 hu).1
   have := hget j hj
   rw [hu] at this
   have hadd : ((⟨b,off,none⟩ : Addr).add (i * k)).add j = ⟨b,off + i * k + j,none⟩ := by
    unfold Addr.add
    split
    ·split
     ·simp_all
     ·simp_all
    ·split <;> simp_all <;> omega
   rwa [hadd] at this
def sizeP : Nat → PProof → Nat
 | 0,_ => 0
 | n + 1,x => 1 + sizeFact x.fact + 1 + sizeL (sizeP n) x.kids
theorem RdSlice.some_ {α : Type} {k : Nat} {R : Reader α} {S : Nat → Prop} {w : World} {v : Value} {l : List α} (h : RdSlice k R S w v l) {x : α} (hx : x ∈ l) : ∃ cs,R S w cs x := by
 obtain ⟨a,cap,hv,h1,h2,h0,h3⟩ := h
 obtain ⟨i,hi⟩ := List.mem_iff_getElem?.1 hx
 obtain ⟨b,off,cs,-,-,-,-,-,hr⟩ := h3 i x hi
 exact ⟨cs,hr⟩
theorem RdSlice.mapG {α β : Type} {k : Nat} {R : Reader α} {R' : Reader β} (g : α → β) {S : Nat → Prop} {w : World} {v : Value} {l : List α} (hg : ∀ x ∈ l,∀ cs,R S w cs x → R' S w cs (g x)) (h : RdSlice k R S w v l) : RdSlice k R' S w v (l.map g) := by
 obtain ⟨a,cap,hv,h1,h2,h0,h3⟩ := h
 refine ⟨a,cap,by rw [List.length_map];exact hv,by rw [List.length_map];exact h1,h2,h0,fun i y hy => ?_⟩
 rw [List.getElem?_map] at hy
 obtain ⟨x,hx,rfl⟩ := Option.map_eq_some_iff.1 hy
 obtain ⟨b,off,cs,ha,hS,hb,hk,hc,hr⟩ := h3 i x hx
 exact ⟨b,off,cs,ha,hS,hb,hk,hc,hg x (ζm hx) cs hr⟩
theorem sizeL_congr {α : Type} {f g : α → Nat} {l : List α} (h : ∀ x ∈ l,f x = g x) : sizeL f l = sizeL g l := by unfold sizeL;rw [List.map_congr_left h]
theorem sizeL_mono {α β : Type} {f : α → Nat} {g : β → Nat} {u : α → β} : ∀ {l : List α},(∀ x ∈ l,g (u x) ≤ f x) → sizeL g (l.map u) ≤ sizeL f l
 | [],_ => ζn _
 | x :: l,h => by
  have h1 := sizeL_mono (f := f) (g := g) (u := u) (l := l) fun y hy => h y (by simp [hy])
  have h2 := h x (by simp)
  unfold sizeL at *
  simp only [List.map_cons,List.sum_cons] at *
  omega
theorem sizeP_stable : ∀ {d e : Nat} {S : Nat → Prop} {w : World} {cs : List Value} {y : PProof},RProofN d S w cs y → d ≤ e → sizeP e y = sizeP d y
 | 0,_,_,_,_,_,h,_ => h.elim
 | d + 1,0,_,_,_,_,_,h => absurd h (by omega)
 | d + 1,e + 1,S,w,cs,y,⟨av,kv,hc,hr,hk⟩,h => by
  show 1 + sizeFact y.fact + 1 + sizeL (sizeP e) y.kids = 1 + sizeFact y.fact + 1 + sizeL (sizeP d) y.kids
  rw [sizeL_congr fun k hk' => by obtain ⟨cs',h'⟩ := RdSlice.some_ hk hk';exact sizeP_stable h' (by omega)]
theorem cnt_sizeP : ∀ (d : Nat) (y : PProof),cntN d y ≤ sizeP d y
 | 0,_ => ζn _
 | d + 1,y => by
  have h : ∀ l : List PProof,(l.map (cntN d)).sum ≤ (l.map (sizeP d)).sum := fun l => by
   induction l with
   | nil => simp
   | cons x l ih => have := cnt_sizeP d x;simp only [List.map_cons,List.sum_cons];omega
  have h1 := h y.kids
  show 1 + (y.kids.map (cntN d)).sum ≤ 1 + sizeFact y.fact + 1 + (1 + (y.kids.map (sizeP d)).sum)
  omega
def RTrip : Reader (PProof × Nat × Nat) := fun S w cs y => RProofN y.2.1 S w cs y.1 ∧ sizeP y.2.1 y.1 ≤ y.2.2
theorem max_mem : ∀ {l : List (PProof × Nat × Nat)} {t : PProof × Nat × Nat},t ∈ l → t.2.1 ≤ (l.map (·.2.1)).foldr max 0
 | x :: l,t,h => by
  rw [List.map_cons,List.foldr_cons]
  rcases List.mem_cons.1 h with rfl | h
  ·exact Nat.le_max_left _ _
  ·exact Nat.le_trans (max_mem h) (Nat.le_max_right _ _)
theorem open_proof : ∀ (B : Nat) {H : Type} {enc : TypeId × Value → H} {w : World} {n : Nat} {cs : List Value} {x : DataW H × List MemPlace},SizeOf.sizeOf x.1 < B → DataW.trod enc Tryz.prog w 0 (fun _ => true) true n 30 cs = some x → ∃ y,RTrip (fun _ => True) w cs y ∧ y.2.2 ≤ Rows.uptoBulk x.1
 | 0,_,_,_,_,_,_,h,_ => absurd h (by omega)
 | B + 1,H,enc,w,n,cs,x,hB,h => by
  obtain ⟨y0,y1,y2,n,rfl,hl,h0,h1,h2⟩ := trod_struct3 Tryz.underlying30 h
  rw [show Tryz.prog.cellsOf 30 = 4 by kernel_rfl] at hl
  obtain ⟨c0,c1,c2,c3,rfl⟩ := list4 hl
  rw [show Tryz.prog.cellsOf 27 = 2 by kernel_rfl] at h0
  rw [show Tryz.prog.cellsOf 3 = 1 by kernel_rfl] at h1
  rw [show Tryz.prog.cellsOf 28 = 1 by kernel_rfl] at h2
  obtain ⟨f,⟨av,e0,hr0⟩,b0⟩ := openFact.opn h0
  obtain ⟨rl,e1,b1⟩ := openInt.opn h1
  obtain ⟨v,l,e2,hr2,b2⟩ := slice_below (R := RTrip) (size := fun y => y.2.2) (by kernel_rfl : Tryz.prog.cellsOf 30 = 4) (by omega) Tryz.underlying28 (fun n' cs' z hz hz' => open_proof B (by simp only [DataW.agg.sizeOf_spec,List.cons.sizeOf_spec] at hB;omega) hz') h2
  obtain ⟨rfl,rfl⟩ : c0 = .string f.name ∧ c1 = av := by simpa using e0
  obtain rfl : c2 = .int .i64 rl := by simpa [RInt] using e1
  obtain rfl : c3 = v := by simpa using e2
  have hmem : ∀ t ∈ l,sizeP ((l.map (·.2.1)).foldr max 0) t.1 ≤ t.2.2 := fun t ht => by
   obtain ⟨cs',h1,h2⟩ := RdSlice.some_ hr2 ht
   rw [sizeP_stable h1 (max_mem ht)]
   exact h2
  refine ⟨(.mk f rl (l.map (·.1)),(l.map (·.2.1)).foldr max 0 + 1,Rows.uptoBulk (.agg [y0.1,y1.1,y2.1])),⟨⟨_,_,rfl,hr0,(show RdSlice 4 (RProofN ((l.map (·.2.1)).foldr max 0)) (fun _ => True) w c3 (l.map (·.1)) from RdSlice.mapG (β := PProof) (fun t => t.1) (fun t ht cs' h' => RProofN.mono (max_mem ht) h'.1) hr2)⟩,?_⟩,ζn _⟩
  have h3 : sizeL (sizeP ((l.map (·.2.1)).foldr max 0)) (l.map (·.1)) ≤ sizeL (fun y => y.2.2) l := sizeL_mono fun t ht => hmem t ht
  show 1 + sizeFact f + 1 + sizeL (sizeP ((l.map (·.2.1)).foldr max 0)) (l.map (·.1)) ≤ _
  have hi : sizeInt rl = 1 := rfl
  simp only [Rows.uptoBulk,Rows.uptoBulkAll]
  omega
theorem smallN_of : ∀ {d : Nat} {S : Nat → Prop} {w : World} {cs : List Value} {y : PProof},RProofN d S w cs y → sizeP d y ≤ 1048576 → smallN d y
 | 0,_,_,_,_,_,_ => trivial
 | d + 1,S,w,cs,y,⟨av,kv,hc,hr,hk⟩,h => by
  have h' : 1 + sizeFact y.fact + 1 + sizeL (sizeP d) y.kids ≤ 1048576 := h
  have h1 := sizeL_le openStr.one y.fact.args
  simp only [sizeFact] at h'
  refine ⟨by omega,?_,fun k hk' => ?_⟩
  ·cases d with
   | zero => rw [RdProofs.zero hk];simp
   | succ d =>
    have h2 := sizeL_le (size := sizeP (d + 1)) (fun x => by show 1 ≤ 1 + sizeFact x.fact + 1 + sizeL (sizeP d) x.kids;omega) y.kids
    omega
  ·obtain ⟨cs',h2⟩ := RdSlice.some_ hk hk'
   have h3 := sizeL_mem (size := sizeP d) hk'
   exact smallN_of h2 (by omega)
theorem openProof : Opens Tryz.prog 30 4 RTrip (fun y => max 1 y.2.2) where
 cells := by kernel_rfl
 pos := by omega
 one _ := Nat.le_max_left _ _
 opn h := by
  obtain ⟨y,h1,h2⟩ := open_proof _ (Nat.lt_succ_self _) h
  refine ⟨y,h1,Nat.max_le.2 ⟨?_,h2⟩⟩
  obtain ⟨x,d,s⟩ := y
  obtain ⟨h3,h4⟩ := h1
  dsimp only at h2 h3 h4
  cases d with
  | zero => exact h3.elim
  | succ d =>
   have h5 : 1 + sizeFact x.fact + 1 + sizeL (sizeP d) x.kids ≤ s := h4
   omega
end
end Go.Proofs.YtdngkcieckejoaaGreat
