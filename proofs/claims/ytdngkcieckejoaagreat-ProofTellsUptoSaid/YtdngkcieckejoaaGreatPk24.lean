/-
  THE TEXTS RcOne, BindsP, one behind the other.
-/
import Derived.Test.YtdngkcieckejoaaGreatPk1
import Derived.Test.YtdngkcieckejoaaGreatPk4
import Derived.Test.YtdngkcieckejoaaGreatPk13
import Derived.Test.YtdngkcieckejoaaGreatPk16
import Derived.Test.YtdngkcieckejoaaGreatPk17
namespace Go.Proofs.YtdngkcieckejoaaGreat
section
open Go.RowKit
def strN : Nat → PProof → Prop
 | 0,_ => True
 | n + 1,x => (∀ a ∈ x.fact.args,a.size ≤ 1048576) ∧ ∀ k ∈ x.kids,strN n k
theorem RdProofs.first {n : Nat} {S : Nat → Prop} {w : World} {a : Option Addr} {m cap : Nat} {l : List PProof} (h : RdProofs n S w (.slice a m cap) l) {x : PProof} (hx : l[0]? = some x) :
 ∃ b off av,a = some ⟨b,off,none⟩ ∧ b < w.heap.size ∧ w.cell? ⟨b,off,none⟩ = some (.string x.fact.name) ∧ w.cell? ⟨b,off + 1,none⟩ = some av ∧ RdStrs S w av x.fact.args := by
 cases n with
 | zero => rw [h.zero] at hx;simp at hx
 | succ n =>
  obtain ⟨b,off,av,kv,ha,-,hb,d0,d1,-,-,hra,-⟩ := h.at hx
  rw [Nat.zero_mul,Nat.add_zero] at d0 d1
  exact ⟨b,off,av,ha,hb,d0,d1,hra⟩
theorem RdProofs.tail {n : Nat} {S : Nat → Prop} {w : World} {b o m cap : Nat} {l : List PProof} (h : RdProofs n S w (.slice (some ⟨b,o,none⟩) m cap) l) (hl : 0 < l.length) : RdProofs n S w (.slice (if cap = 1 then some ⟨b,o,none⟩ else some ⟨b,o + 4,none⟩) (l.length - 1) (cap - 1)) (l.drop 1) := by
 have := RdSlice.drop_some h (show 1 ≤ l.length by omega)
 rwa [Nat.one_mul] at this
theorem tryHit {S S2 : Nat → Prop} {a : PAtom} {tv : Value} {f : PFact} {fv : Value} {l m : Binds} {b n : Nat} {w : World} (hm : meetP a f l = some m) (ht : RdTerms S w tv a.terms) (hf : RdStrs S2 w fv f.args) (he : MapE w b n (fun v => getB v l))
 (n1 : a.terms.length ≤ 4) (n2 : f.args.length ≤ 1048576) (n3 : n ≤ 1048576) (s1 : ∀ t ∈ a.terms,t.name.size ≤ 1048576) (s2 : ∀ x ∈ f.args,x.size ≤ 1048576) :
 Calls Tryz.prog 32 #[.agg #[.bool a.neg,.string a.name,tv],.agg #[.string f.name,fv],.map (some b)] w fun e w' => (∃ b',e = .returned (.map (some b')) ∧ w.heap.size ≤ b' ∧ MapE w' b' (n + 4) (fun v => getB v m)) ∧ Below w.heap.size w w' :=
 (tryRef a tv f fv l b n w ht hf he (by omega) n2 (by omega) s1 s2).mono fun e w' ⟨h1,h2⟩ => by
  rw [hm] at h2
  obtain ⟨b',e1,e2,e3⟩ := h2
  exact ⟨⟨b',e1,e2,e3.mono (by omega)⟩,h1⟩
theorem tryMiss {S S2 : Nat → Prop} {a : PAtom} {tv : Value} {f : PFact} {fv : Value} {l : Binds} {b n : Nat} {w : World} (hm : meetP a f l = none) (ht : RdTerms S w tv a.terms) (hf : RdStrs S2 w fv f.args) (he : MapE w b n (fun v => getB v l))
 (n1 : a.terms.length ≤ 4) (n2 : f.args.length ≤ 1048576) (n3 : n ≤ 1048576) (s1 : ∀ t ∈ a.terms,t.name.size ≤ 1048576) (s2 : ∀ x ∈ f.args,x.size ≤ 1048576) :
 Calls Tryz.prog 32 #[.agg #[.bool a.neg,.string a.name,tv],.agg #[.string f.name,fv],.map (some b)] w fun e w' => e = .returned (.map none) ∧ Below w.heap.size w w' :=
 (tryRef a tv f fv l b n w ht hf he (by omega) n2 (by omega) s1 s2).mono fun e w' ⟨h1,h2⟩ => by
  rw [hm] at h2
  exact ⟨h2,h1⟩
theorem MapE.nil_ {w : World} : MapE (w.alloc (.map #[] 0)) w.heap.size 0 (fun v => getB v []) := MapE.made w
theorem fillHitR {S : Nat → Prop} {a : PAtom} {tv : Value} {f : PFact} {l : Binds} {b n : Nat} {w : World} (hf : fillP a l = some f) (ht : RdTerms S w tv a.terms) (he : MapE w b n (fun v => getB v l)) (n1 : a.terms.length ≤ 4) (s1 : ∀ t ∈ a.terms,t.name.size ≤ 1048576) :
 Calls Tryz.prog 33 #[.agg #[.bool a.neg,.string a.name,tv],.map (some b)] w fun e w' => (∃ av ac,e = .returned (.tuple #[.agg #[.string f.name,.slice av f.args.length ac],.bool true]) ∧ RdStrs (New w) w' (.slice av f.args.length ac) f.args) ∧ Below w.heap.size w w' :=
 (fillRef a tv l b n w ht he (by omega) s1).mono fun e w' ⟨h1,h2⟩ => by
  rw [hf] at h2
  obtain ⟨v,he,hr⟩ := h2
  obtain ⟨av,ac,rfl,-,-,-⟩ := id hr.form
  exact ⟨⟨av,ac,he,hr⟩,h1⟩
theorem fillMissR {S : Nat → Prop} {a : PAtom} {tv : Value} {l : Binds} {b n : Nat} {w : World} (hf : fillP a l = none) (ht : RdTerms S w tv a.terms) (he : MapE w b n (fun v => getB v l)) (n1 : a.terms.length ≤ 4) (s1 : ∀ t ∈ a.terms,t.name.size ≤ 1048576) :
 Calls Tryz.prog 33 #[.agg #[.bool a.neg,.string a.name,tv],.map (some b)] w fun e w' => e = .returned (.tuple #[.agg #[.string ⟨#[]⟩,.slice none 0 0],.bool false]) ∧ Below w.heap.size w w' :=
 (fillRef a tv l b n w ht he (by omega) s1).mono fun e w' ⟨h1,h2⟩ => by
  rw [hf] at h2
  exact ⟨h2,h1⟩
attribute [local go_sem ↓] Go.wp_at_zero Go.wp_at_succ
set_option maxRecDepth 100000 in
set_option maxHeartbeats 0 in
theorem oneRefWalk {S S2 S3 : Nat → Prop} (p : List PRule) (told M : List PFact) (c : PProof → Int) (m : Nat) (pv tv mv av : Value) (ka : Option Addr) (kc : Nat) (f : PFact) (rl : Int) (ks : List PProof) (w : World)
 (hp : RdRules S w pv p) (ht : RdFacts S2 w tv told) (hm : RdFacts S3 w mv M) (ha : RdStrs (fun _ => True) w av f.args) (hk : RdProofs m (fun _ => True) w (.slice ka ks.length kc) ks)
 (K : ∀ (i : Nat) (k : PProof),ks[i]? = some k → ∃ b off a1 n1 c1 a2 n2 c2,ka = some ⟨b,off,none⟩ ∧ b < w.heap.size ∧ w.cell? ⟨b,off + i * 4,none⟩ = some (.string k.fact.name) ∧ w.cell? ⟨b,off + i * 4 + 1,none⟩ = some (.slice a1 n1 c1) ∧ w.cell? ⟨b,off + i * 4 + 2,none⟩ = some (.int .i64 k.rule) ∧ w.cell? ⟨b,off + i * 4 + 3,none⟩ = some (.slice a2 n2 c2) ∧
  ∀ W,Below w.heap.size w W → Calls Tryz.prog 14 #[pv,tv,mv,.agg #[.string k.fact.name,.slice a1 n1 c1,.int .i64 k.rule,.slice a2 n2 c2]] W fun e w' => e = .returned (.int .i64 (c k)) ∧ Below W.heap.size W w')
 (hf : f.args.length ≤ 1048576) (hfs : ∀ x ∈ f.args,x.size ≤ 1048576) (hkf : ∀ k ∈ ks,k.fact.args.length ≤ 1048576 ∧ ∀ x ∈ k.fact.args,x.size ≤ 1048576)
 (hkl : ks.length ≤ 1048576) (_hpl : p.length ≤ 1048576) (hpt : ∀ r ∈ p,r.head.terms.length ≤ 4 ∧ r.body.length ≤ 5 ∧ ∀ a ∈ r.body,a.terms.length ≤ 4) (hps : ∀ r ∈ p,RuleSmall r)
 (ut1 : told.length ≤ 1048576) (ut2 : ∀ x ∈ told,x.args.length ≤ 1048576) (um1 : M.length ≤ 1048576) (um2 : ∀ x ∈ M,x.args.length ≤ 1048576) :
 Calls Tryz.prog 14 #[pv,tv,mv,.agg #[.string f.name,av,.int .i64 rl,.slice ka ks.length kc]] w fun e w' => e = .returned (.int .i64 (oneStep p told M c (.mk f rl ks))) ∧ Below w.heap.size w w' := by
 have hmm := @run_makeMap Tryz.prog
 obtain ⟨pa,pc,rfl,-,-,-⟩ := id hp.form
 obtain ⟨ta,tc,rfl,-,-,-⟩ := id ht.form
 obtain ⟨ma,mc,rfl,-,-,-⟩ := id hm.form
 obtain ⟨aa,ac,rfl,-,-,-⟩ := id ha.form
 have KT := ζ (fun W (hW : Below w.heap.size w W) fv (z : PFact) (hz : RdStrs (fun _ => True) W fv z.args) (hl : z.args.length ≤ 1048576) => inRef (.slice ta told.length tc) told z fv W (RdFacts.up ht hW) hz (by omega) (fun x hx => Nat.le_trans (ut2 x hx) (by decide)) (Nat.le_trans hl (by decide)))
 have KM := ζ (fun W (hW : Below w.heap.size w W) fv (z : PFact) (hz : RdStrs (fun _ => True) W fv z.args) (hl : z.args.length ≤ 1048576) => inRef (.slice ma M.length mc) M z fv W (RdFacts.up hm hW) hz (by omega) (fun x hx => Nat.le_trans (um2 x hx) (by decide)) (Nat.le_trans hl (by decide)))
 have HK := ζ K
 have HP := ζ hp
 have HKR := ζ hk
 have HA := ζ ha
 have HPT := ζ hpt
 have HPS := ζ hps
 have HFS := ζ hfs
 have HKF := ζ hkf
 clear K hp ht hm hk ha hpt hps hfs hkf ut1 ut2 um1 um2
 obtain ⟨W0,hW0⟩ : ∃ W0 : World,w.alloc (.cells #[.string f.name,.slice aa f.args.length ac,.int .i64 rl,.slice ka ks.length kc] 30) = W0 := ⟨_,rfl⟩
 have HB0 := ζ (show Below w.heap.size w W0 by subst hW0;exact (ζb _ _).alloc (ζn _) _)
 have HX0 := ζ (show Blk W0 w.heap.size 30 #[.string f.name,.slice aa f.args.length ac,.int .i64 rl,.slice ka ks.length kc] by subst hW0;exact Blk.new w _ _)
 have x0 := HX0.out.cell 0;have x1 := HX0.out.cell 1;have x2 := HX0.out.cell 2;have x3 := HX0.out.cell 3
 simp only [ζc] at x0 x1 x2 x3
 by_cases hr : rl < 0
 ·by_cases h1 : rl = -1
  case neg =>
   have g1 : (rl == -1) = false := by simpa using h1
   have HE := ζ (show oneStep p told M c (.mk f rl ks) = 6 from (if_pos hr).trans (if_pos (.inl h1)))
   clear h1
   go_enter Tryz.func14,Tryz.ntmps14
   go_wp2
   go_ret
   refine ⟨?_,HB0.out⟩
   rw [HE.out]
   rfl
  subst h1
  by_cases h2 : ks = []
  ·subst h2
   have HBL := ζ ((ζb w.heap.size w).alloc (ζn _) (.cells #[.string f.name,.slice aa f.args.length ac,.int .i64 (-1),.slice ka 0 kc] 30))
   have KI := ζ (KT.out _ HBL.out _ f (HA.out.up HBL.out) hf)
   have HE := ζ (show oneStep p told M c (.mk f (-1) []) = if memF f told = false then 6 else 0 from (if_pos hr).trans (by
    unfold leafBad
    by_cases h : memF f told = false
    ·rw [if_pos (.inr (.inr h)),if_pos h]
    ·rw [if_neg h,if_neg]
     rintro (h3 | h3 | h3)
     ·exact h3 rfl
     ·exact h3 rfl
     ·exact h h3))
   clear x0 x1 x2 x3 hW0 HB0 HX0 hmm
   generalize memF f told = bm at *
   cases bm
   all_goals
    go_enter Tryz.func14,Tryz.ntmps14
    go_wp2_with (go_at_call 26;refine (KI.out).mono ?_;rintro e w1 ⟨rfl,hf1⟩;have HB1 := ζ (HBL.out.trans (hf1.below.mono HBL.out.size));clear hf1)
    go_ret
    exact ⟨ret_int HE.out.symm,HB1.out⟩
  ·have hkn : ¬ (ks.length : Int) = 0 := by have := List.length_pos_iff.2 h2;omega
   have HE := ζ (show oneStep p told M c (.mk f (-1) ks) = 6 from (if_pos hr).trans (if_pos (.inr (.inl h2))))
   go_enter Tryz.func14,Tryz.ntmps14
   go_wp2
   go_ret
   refine ⟨?_,HB0.out⟩
   rw [HE.out]
   rfl
 ·obtain ⟨rk,rfl⟩ : ∃ rk : Nat,rl = rk := ⟨rl.toNat,by omega⟩
  by_cases hlt : rk < p.length
  case neg =>
   have g1 : ¬ ((rk : Int) < (p.length : Int)) := by omega
   have g2 : (p.length : Int) ≤ (rk : Int) := by omega
   have HE := ζ (oneStep_none (told := told) (M := M) (c := c) (x := .mk f rk ks) rfl (Nat.le_of_not_lt hlt))
   go_enter Tryz.func14,Tryz.ntmps14
   go_wp2
   go_ret
   refine ⟨?_,HB0.out⟩
   rw [HE.out]
   rfl
  obtain ⟨r,hrr⟩ : ∃ r,p[rk]? = some r := ⟨_,ζe hlt⟩
  have g1 : (rk : Int) < (p.length : Int) := by omega
  have g2 : ¬ (p.length : Int) ≤ (rk : Int) := by omega
  have g0 : (0 : Int) ≤ (rk : Int) := by omega
  have HOS := ζ (show oneStep p told M c (.mk f rk ks) = if ruleOf r M (.mk f rk ks) ≠ 0 then ruleOf r M (.mk f rk ks) else firstErr c ks from oneStep_some (told := told) (M := M) (c := c) (x := .mk f rk ks) rfl hrr)
  obtain ⟨b1,o1,tv,bv,rfl,-,hb1,r0,r1,r2,r3,hrt,hrb⟩ := HP.out.at hrr
  obtain ⟨ta1,tc1,rfl,-,-,-⟩ := id hrt.form
  obtain ⟨ba1,bc1,rfl,-,-,-⟩ := id hrb.form
  obtain ⟨u1,u2,u3⟩ := HPT.out r (ζm hrr)
  have HSM := ζ (HPS.out r (ζm hrr))
  have e0 := (ζl HB0.out hb1 _).trans r0;have e1 := (ζl HB0.out hb1 _).trans r1;have e2 := (ζl HB0.out hb1 _).trans r2;have e3 := (ζl HB0.out hb1 _).trans r3
  have HT := ζ hrt
  have HBD := ζ hrb
  have U3 := ζ u3
  clear r0 r1 r2 r3 hrt hrb u3 hrr
  have hqq : ∀ (W : World) (r : Option Nat),(binOp .eql 88 (.map r) (.map none)).run Tryz.prog W = .ok (.bool r.isNone) W := fun W r => run_eql_map_nil W _ _ _ r Tryz.underlying88
  obtain ⟨W1,hW1⟩ : ∃ W1 : World,W0.alloc (.cells #[.bool r.head.neg,.string r.head.name,.slice ta1 r.head.terms.length tc1,.slice ba1 r.body.length bc1] 81) = W1 := ⟨_,rfl⟩
  obtain ⟨bq,hbq⟩ : ∃ bq,W0.heap.size = bq := ⟨_,rfl⟩
  have HB1 := ζ (show Below w.heap.size w W1 by subst hW1;exact HB0.out.alloc HB0.out.size _)
  have HX1 := ζ (show Blk W1 w.heap.size 30 #[.string f.name,.slice aa f.args.length ac,.int .i64 rk,.slice ka ks.length kc] by subst hW1;exact HX0.out.alloc _)
  have HR1 := ζ (show Blk W1 bq 81 #[.bool r.head.neg,.string r.head.name,.slice ta1 r.head.terms.length tc1,.slice ba1 r.body.length bc1] by subst hW1;subst hbq;exact Blk.new W0 _ _)
  have y0 := HX1.out.cell 0;have y1 := HX1.out.cell 1;have y2 := HX1.out.cell 2;have y3 := HX1.out.cell 3
  have z0 := HR1.out.cell 0;have z1 := HR1.out.cell 1;have z2 := HR1.out.cell 2;have z3 := HR1.out.cell 3
  simp only [ζc] at y0 y1 y2 y3 z0 z1 z2 z3
  obtain ⟨W2,hW2⟩ : ∃ W2 : World,W1.alloc (.map #[] 0) = W2 := ⟨_,rfl⟩
  obtain ⟨bm,hbm⟩ : ∃ bm,W1.heap.size = bm := ⟨_,rfl⟩
  have HB2 := ζ (show Below w.heap.size w W2 by subst hW2;exact HB1.out.alloc HB1.out.size _)
  have HX2 := ζ (show Blk W2 w.heap.size 30 #[.string f.name,.slice aa f.args.length ac,.int .i64 rk,.slice ka ks.length kc] by subst hW2;exact HX1.out.alloc _)
  have HR2 := ζ (show Blk W2 bq 81 #[.bool r.head.neg,.string r.head.name,.slice ta1 r.head.terms.length tc1,.slice ba1 r.body.length bc1] by subst hW2;exact HR1.out.alloc _)
  have HM2 := ζ (show MapE W2 bm 0 (fun v => getB v []) by subst hW2;subst hbm;exact MapE.nil_)
  cases hm0 : meetP r.head f [] with
  | none =>
   have KE := ζ (tryMiss hm0 (HT.out.up HB2.out) (HA.out.up HB2.out) HM2.out u1 hf (by omega) HSM.out.h2 HFS.out)
   have HE := ζ (show oneStep p told M c (.mk f rk ks) = 8 by rw [HOS.out,ruleOf_none hm0];rfl)
   clear hm0 HOS
   go_enter Tryz.func14,Tryz.ntmps14
   go_wp2_with (go_at_call 32;refine (KE.out).mono ?_;rintro e w3 ⟨rfl,hb3⟩;have HB3 := ζ (HB2.out.trans (hb3.mono HB2.out.size));clear hb3)
   go_ret
   refine ⟨?_,HB3.out⟩
   rw [HE.out]
   rfl
  | some b0 =>
  have KE := ζ (tryHit hm0 (HT.out.up HB2.out) (HA.out.up HB2.out) HM2.out u1 hf (by omega) HSM.out.h2 HFS.out)
  rw [ruleOf_some hm0] at HOS
  have HT0 := ζ (show bodyMeet (r.body.drop 0) (ks.map PProof.fact) b0 = bodyMeet r.body (ks.map PProof.fact) b0 from rfl)
  change Hid (oneStep p told M c (.mk f rk ks) = if (if (bodyMeet r.body (ks.map PProof.fact) b0).2.2 ≠ 0 then (bodyMeet r.body (ks.map PProof.fact) b0).2.2 else if (bodyMeet r.body (ks.map PProof.fact) b0).2.1 ≠ [] then 5 else if r.body.any (badNeg M (bodyMeet r.body (ks.map PProof.fact) b0).1) then 10 else 0) ≠ 0 then (if (bodyMeet r.body (ks.map PProof.fact) b0).2.2 ≠ 0 then (bodyMeet r.body (ks.map PProof.fact) b0).2.2 else if (bodyMeet r.body (ks.map PProof.fact) b0).2.1 ≠ [] then 5 else if r.body.any (badNeg M (bodyMeet r.body (ks.map PProof.fact) b0).1) then 10 else 0) else firstErr c ks) at HOS
  clear hm0
  generalize bodyMeet r.body (ks.map PProof.fact) b0 = T at *
  obtain ⟨Tb,Tk,Te⟩ := T
  dsimp only at HOS
  generalize oneStep p told M c (.mk f rk ks) = R at *
  have HR1' := ζ (show ∀ e : Int,Te = e → e ≠ 0 → R = e from fun e h1 h2 => by subst h1;rw [HOS.out,if_pos h2,if_pos h2])
  have HR2' := ζ (show Te = 0 → Tk ≠ [] → R = 5 from fun h1 h2 => by subst h1;rw [HOS.out];simp [h2])
  have HR3' := ζ (show Te = 0 → Tk = [] → r.body.any (badNeg M Tb) = true → R = 10 from fun h1 h2 h3 => by subst h1;subst h2;rw [HOS.out,h3];simp)
  have HR4' := ζ (show Te = 0 → Tk = [] → r.body.any (badNeg M Tb) = false → R = firstErr c ks from fun h1 h2 h3 => by subst h1;subst h2;rw [HOS.out,h3];simp)
  clear HOS
  go_enter Tryz.func14,Tryz.ntmps14
  go_wp2_with (go_at_call 32;refine (KE.out).mono ?_;rintro e w3 ⟨⟨eb,rfl,heb,hme⟩,hb3⟩;have HE3 := ζ hme;have HR3 := ζ hb3;have HX3 := ζ (HX2.out.below hb3 HX2.out.lt);have HRB3 := ζ (HR2.out.below hb3 HR2.out.lt);have y2 := HX3.out.cell 3;have z3 := HRB3.out.cell 3;simp only [ζc] at y2 z3;clear hb3 hme)
  have HBL := ζ (show r.body.length ≤ 5 from u2)
  have HPR0 := ζ (RdSlice.agree (RProofN.steady m) (Below.agree (HB2.out.trans (HR3.out.mono HB2.out.size))) HKR.out)
  clear KE HX0 HX1 HR1 HB1 HB0 HKR HT e0 e1 e2 e3 x0 x1 x2 x3 y0 y1 y2 y3 z0 z1 z2 hW0 hW1 hW2 hmm hbm hbq HM2 HX3 HRB3 g0 g1 g2 heb
  go_loopw [62,10,11] (fun i e v wr => ∃ (n : Nat) (ls : List PProof) (bs : Binds) (eb : Nat) (la : Option Addr) (lc : Nat),n ≤ r.body.length ∧ i = .int .i64 n ∧ e = .map (some eb) ∧ v = .slice la ls.length lc ∧ Hid (MapE wr eb (4 + 4 * n) (fun v => getB v bs)) ∧ Hid (RdProofs m (fun _ => True) wr (.slice la ls.length lc) ls) ∧ Hid (∀ k ∈ ls,k ∈ ks) ∧ Hid (bodyMeet (r.body.drop n) (ls.map PProof.fact) bs = (Tb,Tk,Te)) ∧ Hid (Below W2.heap.size W2 wr)) (fun i _ _ _ => r.body.length - (intOf i).toNat)
  case atStart => exact ⟨0,ks,b0,eb,ka,kc,Nat.zero_le _,rfl,rfl,rfl,HE3,HPR0,ζ (fun k h => h),HT0,HR3⟩
  case round =>
   clear HE3 HPR0 HT0 HR3 z3
   obtain ⟨n,ls,bs,eb,la,lc,hn,rfl,rfl,rfl,HME,HPR,HLS,HBM,HBR⟩ := hrel
   have HB := ζ (HB2.out.trans (HBR.out.mono HB2.out.size))
   have hl5 := HBL.out
   by_cases hlt2 : n < r.body.length
   ·obtain ⟨a,ha⟩ : ∃ a,r.body[n]? = some a := ⟨_,ζe hlt2⟩
    obtain ⟨b4,o4,tv4,rfl,-,hb4,a0,a1,a2,hat⟩ := (HBD.out.up HB.out).at ha
    obtain ⟨ta4,tc4,rfl,-,-,-⟩ := id hat.form
    have ht4 := U3.out a (ζm ha)
    have HSA := ζ (fun t ht => HSM.out.b2 a (ζm ha) t ht)
    have HAT := ζ hat
    obtain ⟨W4,hW4⟩ : ∃ W4 : World,wr.alloc (.cells #[.bool a.neg,.string a.name,.slice ta4 a.terms.length tc4] 78) = W4 := ⟨_,rfl⟩
    have HB4 := ζ (show Below wr.heap.size wr W4 by subst hW4;exact (ζb _ _).alloc (ζn _) _)
    have HC4 := ζ (show Blk W4 wr.heap.size 78 #[.bool a.neg,.string a.name,.slice ta4 a.terms.length tc4] by subst hW4;exact Blk.new wr _ _)
    have HME4 := ζ (HME.out.below HB4.out HME.out.lt)
    have HPR4 := ζ (RdSlice.agree (RProofN.steady m) (Below.agree HB4.out) HPR.out)
    have HBR4 := ζ (HBR.out.trans (HB4.out.mono HBR.out.size))
    have HB5 := ζ (HB.out.trans (HB4.out.mono HB.out.size))
    clear hat
    cases hng : a.neg with
    | true =>
     rw [hng] at a0 hW4 HC4
     have c0 := HC4.out.cell 0
     simp only [List.getElem?_toArray,List.getElem?_cons_zero] at c0
     have HN := ζ ((bm_neg ha hng).symm.trans HBM.out)
     have HME5 := ζ (HME4.out.mono (show 4 + 4 * n ≤ 4 + 4 * (n + 1) by omega))
     clear ha hng
     go_wp2
     go_roundw
     case rel => exact ⟨n + 1,ls,bs,eb,la,lc,by omega,by go_num,rfl,rfl,HME5,HPR4,HLS,HN,HBR4⟩
     case measure => simp [intOf];omega
    | false =>
     rw [hng] at a0 hW4 HC4
     have c0 := HC4.out.cell 0;have c1 := HC4.out.cell 1;have c2 := HC4.out.cell 2
     simp only [ζc] at c0 c1 c2
     cases ls with
     | nil =>
      have HE := ζ (show R = 5 from HR1'.out 5 (by have h1 := HBM.out;rw [List.map_nil,bm_none ha hng] at h1;exact (congrArg (fun z : Binds × List PFact × Int => z.2.2) h1).symm) (by decide))
      clear ha hng
      go_wp2
      go_ret
      refine ⟨?_,HB5.out⟩
      rw [HE.out]
      rfl
     | cons kd lt =>
      obtain ⟨b5,o5,av5,rfl,hb5,d0,d1,hra⟩ := RdProofs.first HPR4.out (x := kd) rfl
      obtain ⟨a5,c5,rfl,-,-,-⟩ := id hra.form
      have hb5' : b5 < W4.drew.heap.size := hb5
      obtain ⟨hal5,has5⟩ := HKF.out kd (HLS.out kd (List.mem_cons_self ..))
      have HTL := ζ (RdProofs.tail HPR4.out (by simp))
      have HLS1 := ζ (fun k (hk : k ∈ lt) => HLS.out k (List.mem_cons_of_mem _ hk))
      rw [List.drop_one,List.tail_cons,List.length_cons,Nat.add_sub_cancel] at HTL
      rw [List.length_cons] at HPR4 HPR ⊢
      obtain ⟨q,hq⟩ : ∃ q,q = lt.length := ⟨_,rfl⟩
      rw [← hq] at HTL HPR4 HPR ⊢
      have hjne : ¬ ((q : Int) + 1 = 0) := by omega
      have n0 : (0 : Int) < (q : Int) + 1 := by omega
      have n1 : (1 : Int) ≤ (q : Int) + 1 := by omega
      have n2 : ((q + 1 : Nat) : Int) = (q : Int) + 1 := rfl
      have HQ := ζ hq
      clear hq
      cases hm1 : meetP a kd.fact bs with
      | none =>
       have ke := tryMiss hm1 (HAT.out.up HB4.out.drew) (RdStrs.up hra (ζb W4.heap.size W4).drew) (HME4.out.below (ζb W4.heap.size W4).drew HME4.out.lt) ht4 hal5 (by omega) HSA.out has5
       rw [hng] at ke
       have KE := ζ ke
       have HE := ζ (show R = 8 from HR1'.out 8 (by have h1 := HBM.out;rw [List.map_cons,bm_miss ha hng hm1] at h1;exact (congrArg (fun z : Binds × List PFact × Int => z.2.2) h1).symm) (by decide))
       clear ke hm1 ha hng hra hal5 has5 hb4
       go_wp2
       go_region_held3 (fun w' => w'.cell? ⟨wr.heap.size,0,none⟩ = some (.bool false) ∧ w'.cell? ⟨wr.heap.size,1,none⟩ = some (.string a.name) ∧ w'.cell? ⟨wr.heap.size,2,none⟩ = some (.slice ta4 a.terms.length tc4) ∧ w'.cell? ⟨b5,o5,none⟩ = some (.string kd.fact.name) ∧ w'.cell? ⟨b5,o5 + 1,none⟩ = some (.slice a5 kd.fact.args.length c5))
        (first | (with_reducible exact ⟨k0,k1,k2,k3,k4⟩) | (with_reducible exact ⟨c0,c1,c2,d0,d1⟩) | go_keep)
        (first | (go_at_call 32;(with_reducible refine (KE.out).mono ?_);rintro e w6 ⟨rfl,hb6⟩;have HBR6 := ζ (HBR4.out.drew.trans (hb6.mono HBR4.out.drew.size));have hc6 := HC4.out.drew.below hb6 HC4.out.lt;have k0 := hc6.cell 0;have k1 := hc6.cell 1;have k2 := hc6.cell 2;simp only [ζc] at k0 k1 k2;have k3 := (ζl hb6 hb5' _).trans d0;have k4 := (ζl hb6 hb5' _).trans d1;skip;clear hb6 hc6))
       go_wp2
       go_ret
       refine ⟨?_,HB2.out.trans (HBR6.out.mono HB2.out.size)⟩
       rw [HE.out]
       rfl
      | some bt =>
       have ke := tryHit hm1 (HAT.out.up HB4.out.drew) (RdStrs.up hra (ζb W4.heap.size W4).drew) (HME4.out.below (ζb W4.heap.size W4).drew HME4.out.lt) ht4 hal5 (by omega) HSA.out has5
       rw [hng] at ke
       have KE := ζ ke
       have HN := ζ (show bodyMeet (r.body.drop (n + 1)) (lt.map PProof.fact) bt = (Tb,Tk,Te) by have h1 := HBM.out;rwa [List.map_cons,bm_hit ha hng hm1] at h1)
       clear ke hm1 ha hng hra hal5 has5 hb4
       go_wp2
       go_region_held3 (fun w' => w'.cell? ⟨wr.heap.size,0,none⟩ = some (.bool false) ∧ w'.cell? ⟨wr.heap.size,1,none⟩ = some (.string a.name) ∧ w'.cell? ⟨wr.heap.size,2,none⟩ = some (.slice ta4 a.terms.length tc4) ∧ w'.cell? ⟨b5,o5,none⟩ = some (.string kd.fact.name) ∧ w'.cell? ⟨b5,o5 + 1,none⟩ = some (.slice a5 kd.fact.args.length c5))
        (first | (with_reducible exact ⟨k0,k1,k2,k3,k4⟩) | (with_reducible exact ⟨c0,c1,c2,d0,d1⟩) | go_keep)
        (first | (go_at_call 32;(with_reducible refine (KE.out).mono ?_);rintro e w6 ⟨⟨eb6,rfl,heb6,hme6⟩,hb6⟩;have HBR6 := ζ (HBR4.out.drew.trans (hb6.mono HBR4.out.drew.size));have hc6 := HC4.out.drew.below hb6 HC4.out.lt;have k0 := hc6.cell 0;have k1 := hc6.cell 1;have k2 := hc6.cell 2;simp only [ζc] at k0 k1 k2;have k3 := (ζl hb6 hb5' _).trans d0;have k4 := (ζl hb6 hb5' _).trans d1;have HME6 := ζ (hme6.mono (show 4 + 4 * n + 4 ≤ 4 + 4 * (n + 1) by omega));have HTL6 := ζ (RdSlice.agree (RProofN.steady m) (Below.agree ((ζb W4.heap.size W4).drew.trans hb6)) HTL.out);clear heb6 hme6;clear hb6 hc6))
       by_cases hc1 : lc = 1
       all_goals
        first | (subst hc1;rw [if_pos rfl] at HTL6) | rw [if_neg hc1] at HTL6
        go_wp2
        rw [HQ.out] at HTL6
        go_roundw
        case rel => exact ⟨n + 1,lt,bt,eb6,_,_,by omega,by go_num,rfl,by rw [HQ.out],HME6,HTL6,HLS1,HN,HBR6⟩
        case measure => simp [intOf];omega
   ·obtain rfl : n = r.body.length := by omega
    have hbe : (bs,ls.map PProof.fact,(0 : Int)) = (Tb,Tk,Te) := by have h1 := HBM.out;rwa [List.drop_eq_nil_of_le (ζn _)] at h1
    simp only [Prod.mk.injEq] at hbe
    obtain ⟨rfl,rfl,rfl⟩ := hbe
    cases ls with
    | cons kd lt =>
     have HE := ζ (show R = 5 from HR2'.out rfl (by simp))
     rw [List.length_cons] at HPR ⊢
     obtain ⟨q,hq⟩ : ∃ q,q = lt.length := ⟨_,rfl⟩
     rw [← hq] at HPR ⊢
     have n0 : (0 : Int) < (q : Int) + 1 := by omega
     clear hq
     go_wp2
     go_ret
     refine ⟨?_,HB.out⟩
     rw [HE.out]
     rfl
    | nil =>
    rw [List.length_nil]
    have H3 := ζ (fun h => HR3'.out rfl rfl h)
    have H4 := ζ (fun h => HR4'.out rfl rfl h)
    have z3 := (HR2.out.below HBR.out HR2.out.lt).cell 3
    simp only [ζc] at z3
    clear HR1' HR2' HR3' HR4' HBM HPR HLS
    obtain ⟨wo,hwo⟩ : ∃ wo : World,wo = wr := ⟨_,rfl⟩
    subst hwo
    have HQ0 := ζ (show (r.body.take 0).any (badNeg M bs) = false by simp)
    have HBI0 := ζ (ζb wo.heap.size wo)
    go_wp2
    go_loopw [89] (fun i wr => ∃ n : Nat,n ≤ r.body.length ∧ i = .int .i64 n ∧ Hid ((r.body.take n).any (badNeg M bs) = false) ∧ Hid (Below wo.heap.size wo wr)) (fun i _ => r.body.length - (intOf i).toNat)
    case atStart => exact ⟨0,Nat.zero_le _,rfl,HQ0,HBI0⟩
    case round =>
     clear HQ0 HBI0 z3
     obtain ⟨n,hn,rfl,HQ,HBI⟩ := hrel
     have HBW := ζ (HB.out.trans (HBI.out.mono HB.out.size))
     by_cases hlt3 : n < r.body.length
     ·obtain ⟨a,ha⟩ : ∃ a,r.body[n]? = some a := ⟨_,ζe hlt3⟩
      obtain ⟨b4,o4,tv4,rfl,-,hb4,a0,a1,a2,hat⟩ := (HBD.out.up HBW.out).at ha
      obtain ⟨ta4,tc4,rfl,-,-,-⟩ := id hat.form
      have ht4 := U3.out a (ζm ha)
      have HSA := ζ (fun t ht => HSM.out.b2 a (ζm ha) t ht)
      have HAM := ζ (ζm ha)
      have HAT := ζ hat
      have HQ1 := ζ (any_get (q := badNeg M bs) ha)
      obtain ⟨W4,hW4⟩ : ∃ W4 : World,wr.alloc (.cells #[.bool a.neg,.string a.name,.slice ta4 a.terms.length tc4] 78) = W4 := ⟨_,rfl⟩
      have HB4 := ζ (show Below wr.heap.size wr W4 by subst hW4;exact (ζb _ _).alloc (ζn _) _)
      have HC4 := ζ (show Blk W4 wr.heap.size 78 #[.bool a.neg,.string a.name,.slice ta4 a.terms.length tc4] by subst hW4;exact Blk.new wr _ _)
      have HME4 := ζ ((HME.out.below HBI.out HME.out.lt).below HB4.out (HME.out.below HBI.out HME.out.lt).lt)
      have HBI4 := ζ (HBI.out.trans (HB4.out.mono HBI.out.size))
      clear hat ha hb4
      cases hng : a.neg with
      | false =>
       rw [hng] at a0 hW4 HC4
       have c0 := HC4.out.cell 0
       simp only [List.getElem?_toArray,List.getElem?_cons_zero] at c0
       have HQ2 := ζ (show (r.body.take (n + 1)).any (badNeg M bs) = false by rw [HQ1.out,HQ.out,bad_pos hng];rfl)
       clear hng
       go_wp2
       go_roundw
       case rel => exact ⟨n + 1,by omega,by go_num,HQ2,HBI4⟩
       case measure => simp [intOf];omega
      | true =>
       rw [hng] at a0 hW4 HC4
       have c0 := HC4.out.cell 0;have c1 := HC4.out.cell 1;have c2 := HC4.out.cell 2
       simp only [ζc] at c0 c1 c2
       cases hfl : fillP a bs with
       | none =>
        have HE := ζ (show R = 10 from H3.out (List.any_eq_true.2 ⟨a,HAM.out,bad_none hng hfl⟩))
        have ke := fillMissR hfl (HAT.out.up HB4.out) HME4.out ht4 HSA.out
        rw [hng] at ke
        have KE := ζ ke
        clear ke hng hfl
        go_wp2_with (go_at_call 33;refine (KE.out).mono ?_;rintro e w6 ⟨rfl,hb6⟩;have HB6 := ζ ((HBI4.out.trans (hb6.mono HBI4.out.size)).alloc (HBI4.out.trans (hb6.mono HBI4.out.size)).size (.cells #[.string ⟨#[]⟩,.slice none 0 0] 27));clear hb6)
        go_ret
        refine ⟨?_,HB.out.trans (HB6.out.mono HB.out.size)⟩
        rw [HE.out]
        rfl
       | some fc =>
        have HBB := ζ (bad_some (M := M) hng hfl)
        have ke := fillHitR hfl (HAT.out.up HB4.out) HME4.out ht4 HSA.out
        rw [hng] at ke
        have KE := ζ ke
        have hfl4 : fc.args.length ≤ 4 := by rw [fill_args hfl];exact ht4
        clear ke hng hfl
        cases hmm2 : memF fc M with
        | true =>
         have HE := ζ (show R = 10 from H3.out (List.any_eq_true.2 ⟨a,HAM.out,by rw [HBB.out,hmm2]⟩))
         go_wp2_with (first
          | (go_at_call 26;have hh := HB6.out;clear hh;refine (KI.out).mono ?_;rintro e w7 ⟨rfl,hf7⟩;have HB7 := ζ (HB6.out.trans (hf7.below.mono HB6.out.size));clear hf7)
          | (go_at_call 33;refine (KE.out).mono ?_;rintro e w6 ⟨⟨fa6,fc6,rfl,hr6⟩,hb6⟩;have HB6 := ζ ((HBI4.out.trans (hb6.mono HBI4.out.size)).alloc (HBI4.out.trans (hb6.mono HBI4.out.size)).size (.cells #[.string fc.name,.slice fa6 fc.args.length fc6] 27));have KI := ζ (KM.out _ (HB.out.trans (HB6.out.mono HB.out.size)) (.slice fa6 fc.args.length fc6) fc (hr6.up ((ζb w6.heap.size w6).alloc (ζn _) (.cells #[.string fc.name,.slice fa6 fc.args.length fc6] 27))) (by omega));rw [hmm2] at KI;clear hb6 hr6))
         go_ret
         refine ⟨?_,HB.out.trans (HB7.out.mono HB.out.size)⟩
         rw [HE.out]
         rfl
        | false =>
         have HQ2 := ζ (show (r.body.take (n + 1)).any (badNeg M bs) = false by rw [HQ1.out,HQ.out,HBB.out,hmm2];rfl)
         go_wp2_with (first
          | (go_at_call 26;have hh := HB6.out;clear hh;refine (KI.out).mono ?_;rintro e w7 ⟨rfl,hf7⟩;have HB7 := ζ (HB6.out.trans (hf7.below.mono HB6.out.size));clear hf7)
          | (go_at_call 33;refine (KE.out).mono ?_;rintro e w6 ⟨⟨fa6,fc6,rfl,hr6⟩,hb6⟩;have HB6 := ζ ((HBI4.out.trans (hb6.mono HBI4.out.size)).alloc (HBI4.out.trans (hb6.mono HBI4.out.size)).size (.cells #[.string fc.name,.slice fa6 fc.args.length fc6] 27));have KI := ζ (KM.out _ (HB.out.trans (HB6.out.mono HB.out.size)) (.slice fa6 fc.args.length fc6) fc (hr6.up ((ζb w6.heap.size w6).alloc (ζn _) (.cells #[.string fc.name,.slice fa6 fc.args.length fc6] 27))) (by omega));rw [hmm2] at KI;clear hb6 hr6))
         go_roundw
         case rel => exact ⟨n + 1,by omega,by go_num,HQ2,HB7⟩
         case measure => simp [intOf];omega
     ·obtain rfl : n = r.body.length := by omega
      have HQE := ζ (show R = firstErr c ks from H4.out (by have := HQ.out;rwa [List.take_of_length_le (ζn _)] at this))
      have y3 := (HX2.out.below (HBR.out.trans (HBI.out.mono HBR.out.size)) HX2.out.lt).cell 3
      simp only [ζc] at y3
      have HQ0 := ζ (show firstErr c (ks.drop 0) = R from HQE.out.symm)
      clear HQE H3 H4 HQ HBI HME
      go_wp2
      go_loopw [113] (fun i wr => ∃ n : Nat,n ≤ ks.length ∧ i = .int .i64 n ∧ Hid (firstErr c (ks.drop n) = R) ∧ Hid (Below w.heap.size w wr)) (fun i _ => ks.length - (intOf i).toNat)
      case atStart => exact ⟨0,Nat.zero_le _,rfl,HQ0,HBW⟩
      case round =>
       clear HQ0 HBW y3
       obtain ⟨n,hn,rfl,HQ,HBW⟩ := hrel
       by_cases hlt3 : n < ks.length
       ·obtain ⟨kd,hkd⟩ : ∃ kd,ks[n]? = some kd := ⟨_,ζe hlt3⟩
        obtain ⟨b5,o5,a1,n1,c1,a2,n2,c2,rfl,hb5,d0,d1,d2,d3,KC⟩ := HK.out n kd hkd
        have e0 := (ζl HBW.out hb5 _).trans d0;have e1 := (ζl HBW.out hb5 _).trans d1;have e2 := (ζl HBW.out hb5 _).trans d2;have e3 := (ζl HBW.out hb5 _).trans d3
        have HBA := ζ (HBW.out.alloc HBW.out.size (.cells #[.string kd.fact.name,.slice a1 n1 c1,.int .i64 kd.rule,.slice a2 n2 c2] 30))
        have KE := ζ (KC _ HBA.out)
        have HF := ζ (show (if c kd ≠ 0 then c kd else firstErr c (ks.drop (n + 1))) = R by have h1 := HQ.out;rwa [drop_get hkd] at h1)
        have hn0 : (0 : Int) ≤ (n : Int) := by omega
        have hn1 : (n : Int) < (ks.length : Int) := by omega
        clear hkd KC HQ d0 d1 d2 d3
        generalize c kd = ck at *
        by_cases hck : ck = 0
        ·subst hck
         have HQ1 := ζ (show firstErr c (ks.drop (n + 1)) = R from HF.out)
         go_wp2_with (go_at_call 14;refine (KE.out).mono ?_;rintro e w6 ⟨rfl,hb6⟩;have HB6 := ζ (HBA.out.trans (hb6.mono HBA.out.size));clear hb6)
         go_roundw
         case rel => exact ⟨n + 1,by omega,by go_num,HQ1,HB6⟩
         case measure => simp [intOf];omega
        ·have HE := ζ (show R = ck by have h1 := HF.out;rw [if_pos hck] at h1;exact h1.symm)
         have g1 : (ck != 0) = true := by simpa using hck
         clear hck
         go_wp2_with (go_at_call 14;refine (KE.out).mono ?_;rintro e w6 ⟨rfl,hb6⟩;have HB6 := ζ (HBA.out.trans (hb6.mono HBA.out.size));clear hb6)
         go_ret
         refine ⟨?_,HB6.out⟩
         rw [HE.out]
         rfl
       ·have HE := ζ (show R = 0 by have h1 := HQ.out;rw [List.drop_eq_nil_of_le (by omega)] at h1;exact h1.symm)
        go_wp2
        go_ret
        refine ⟨?_,HBW.out⟩
        rw [HE.out]
        rfl
theorem oneRefCalls {p : List PRule} {told M : List PFact} (hpl : p.length ≤ 1048576) (hpt : ∀ r ∈ p,r.head.terms.length ≤ 4 ∧ r.body.length ≤ 5 ∧ ∀ a ∈ r.body,a.terms.length ≤ 4) (hps : ∀ r ∈ p,RuleSmall r)
 (ut1 : told.length ≤ 1048576) (ut2 : ∀ x ∈ told,x.args.length ≤ 1048576) (um1 : M.length ≤ 1048576) (um2 : ∀ x ∈ M,x.args.length ≤ 1048576) :
 ∀ (n : Nat) {S S2 S3 S4 S5 : Nat → Prop} (pv tv mv av kv : Value) (x : PProof) (w : World),RdRules S w pv p → RdFacts S2 w tv told → RdFacts S3 w mv M → RdStrs S4 w av x.fact.args → RdProofs n S5 w kv x.kids → smallN (n + 1) x → strN (n + 1) x →
  Calls Tryz.prog 14 #[pv,tv,mv,.agg #[.string x.fact.name,av,.int .i64 x.rule,kv]] w fun e w' => e = .returned (.int .i64 (oneN p told M (n + 1) x)) ∧ Below w.heap.size w w'
 | 0,S,S2,S3,S4,S5,pv,tv,mv,av,kv,x,w,hp,ht,hm,ha,hk,hs,ht2 => by
  obtain ⟨ka,kc,rfl,-,-,-⟩ := id hk.form
  have h0 := hk.zero
  obtain ⟨f,rl,ks⟩ := x
  have h1 : ks = [] := h0
  exact oneRefWalk p told M (oneN p told M 0) 0 pv tv mv av ka kc f rl ks w hp ht hm (ha.more ζS (fun _ _ _ => trivial)) (hk.more (RProofN.steady 0) (fun _ _ _ => trivial)) (fun i k hik => by rw [h1] at hik;simp at hik) hs.1 ht2.1 (fun k hk => by rw [h1] at hk;simp at hk) hs.2.1 hpl hpt hps ut1 ut2 um1 um2
 | n + 1,S,S2,S3,S4,S5,pv,tv,mv,av,kv,x,w,hp,ht,hm,ha,hk,hs,ht2 => by
  obtain ⟨ka,kc,rfl,-,-,-⟩ := id hk.form
  obtain ⟨f,rl,ks⟩ := x
  refine oneRefWalk p told M (oneN p told M (n + 1)) (n + 1) pv tv mv av ka kc f rl ks w hp ht hm (ha.more ζS (fun _ _ _ => trivial)) (hk.more (RProofN.steady (n + 1)) (fun _ _ _ => trivial)) (fun i k hik => ?_) hs.1 ht2.1 (fun k hk => ⟨(hs.2.2 k hk).1,(ht2.2 k hk).1⟩) hs.2.1 hpl hpt hps ut1 ut2 um1 um2
  obtain ⟨b',off',av',kv',ha',-,hb,d0,d1,d2,d3,hra,hrk⟩ := RdProofs.at hk hik
  obtain ⟨a1,c1,rfl,-,-,-⟩ := id hra.form
  obtain ⟨a2,c2,rfl,-,-,-⟩ := id hrk.form
  have hks := hs.2.2 k (ζm hik)
  have hts := ht2.2 k (ζm hik)
  exact ⟨b',off',a1,_,c1,a2,_,c2,ha',hb,d0,d1,d2,d3,fun W hW => oneRefCalls hpl hpt hps ut1 ut2 um1 um2 n pv tv mv _ _ k W (hp.up hW) (RdFacts.up ht hW) (RdFacts.up hm hW) (hra.up hW) (RdSlice.agree (RProofN.steady n) (Below.agree hW) hrk) hks hts⟩
end
section
theorem cmpBind_lt {x y : PBind} (h : strLt x.var y.var = true) : ltC cmpBind x y = true := by
 unfold ltC
 rw [decide_eq_true_eq,cmpBind_eq]
 have hne : x.var ≠ y.var := fun e => by rw [e,strLt_irrefl] at h;cases h
 rw [if_pos (cmpStr3.ne_zero hne)]
 exact (cmpStr_lt _ _).2 h
def RiseV (l : Binds) : Prop := l.Pairwise fun a b => strLt a.var b.var = true
theorem RiseV.rising {l : Binds} (h : RiseV l) : RisingC cmpBind l := h.imp fun {_ _} hab => cmpBind_lt hab
theorem RiseV.nd {l : Binds} (h : RiseV l) : Nd l := by
 unfold Nd Vs
 rw [List.nodup_iff_pairwise_ne,List.pairwise_map]
 exact h.imp fun {a b} hab e => by rw [e,strLt_irrefl] at hab;cases hab
def insAt (k : Nat) (x : PBind) (l : Binds) : Binds := l.take k ++ x :: l.drop k
theorem mem_insAt {k : Nat} {x y : PBind} {l : Binds} : y ∈ insAt k x l ↔ y = x ∨ y ∈ l := by
 unfold insAt
 rw [List.mem_append,List.mem_cons]
 constructor
 ·rintro (h | h | h)
  ·exact .inr (List.mem_of_mem_take h)
  ·exact .inl h
  ·exact .inr (List.mem_of_mem_drop h)
 ·rintro (h | h)
  ·exact .inr (.inl h)
  ·rw [← List.take_append_drop k l] at h
   rcases List.mem_append.1 h with h | h
   ·exact .inl h
   ·exact .inr (.inr h)
theorem insAt_len {k : Nat} {x : PBind} {l : Binds} : (insAt k x l).length = l.length + 1 := by
 unfold insAt
 rw [List.length_append,List.length_cons,List.length_take,List.length_drop]
 omega
theorem riseV_ins {l : Binds} {k : Nat} {x : PBind} (h : RiseV l) (h1 : ∀ y ∈ l.take k,strLt y.var x.var = true) (h2 : ∀ y,l[k]? = some y → strLt y.var x.var = false) (h3 : x.var ∉ Vs l) : RiseV (insAt k x l) := by
 have hs : RiseV (l.take k ++ l.drop k) := by rw [List.take_append_drop];exact h
 obtain ⟨g1,g2,g3⟩ := List.pairwise_append.1 hs
 have hx : ∀ y ∈ l.drop k,strLt x.var y.var = true := by
  intro y hy
  have hne : ∀ z ∈ l,z.var ≠ x.var := fun z hz e => h3 (by unfold Vs;rw [← e];exact List.mem_map.2 ⟨z,hz,rfl⟩)
  cases hd : l.drop k with
  | nil => rw [hd] at hy;cases hy
  | cons z r =>
   have hz : l[k]? = some z := by have := congrArg List.head? hd;rwa [List.head?_drop] at this
   have hxz : strLt x.var z.var = true := by
    cases e : strLt x.var z.var
    ·exact absurd (strLt_tri (h2 z hz) e) (hne z (List.mem_of_getElem? hz))
    ·rfl
   rw [hd] at hy g2
   rcases List.mem_cons.1 hy with rfl | hy
   ·exact hxz
   ·exact strLt_trans hxz ((List.pairwise_cons.1 g2).1 y hy)
 refine List.pairwise_append.2 ⟨g1,List.pairwise_cons.2 ⟨hx,g2⟩,fun a ha b hb => ?_⟩
 rcases List.mem_cons.1 hb with rfl | hb
 ·exact h1 a ha
 ·exact g3 a ha b hb
theorem getB_insAt {l : Binds} {k : Nat} {x : PBind} (_ : RiseV l) (hn : RiseV (insAt k x l)) (h3 : x.var ∉ Vs l) (t : Str) : getB t (insAt k x l) = if t = x.var then some x.name else getB t l := by
 by_cases e : t = x.var
 ·subst e
  rw [if_pos rfl]
  exact getB_of_mem hn.nd (mem_insAt.2 (.inl rfl))
 ·rw [if_neg e]
  cases hg : getB t l with
  | some n => exact getB_of_mem hn.nd (mem_insAt.2 (.inr (getB_mem hg)))
  | none =>
   refine getB_none.2 fun hm => ?_
   obtain ⟨y,hy,hv⟩ := List.mem_map.1 hm
   rcases mem_insAt.1 hy with rfl | hy
   ·exact e hv.symm
   ·exact getB_none.1 hg (List.mem_map.2 ⟨y,hy,hv⟩)
theorem riseV_all {l o : Binds} {M : Nat} (hl : Nd l) (hs : ∀ y ∈ l,y.var.size ≤ M) (ho : RiseV o) (hz : ∀ y ∈ o,y.var.size ≤ M) (hg : ∀ v : Str,v.size ≤ M → getB v o = getB v l) : o = ofC cmpBind l :=
 risingC_ext cmpBind3 ho.rising (ofC_rising cmpBind3 l) fun y => by
  rw [mem_ofC cmpBind3]
  constructor
  ·intro hy
   have h1 := hg y.var (hz y hy)
   rw [getB_of_mem ho.nd (v := y.var) (n := y.name) hy] at h1
   exact getB_mem h1.symm
  ·intro hy
   have h1 := hg y.var (hs y hy)
   rw [getB_of_mem hl (v := y.var) (n := y.name) hy] at h1
   exact getB_mem h1
section
variable {α : Type} {c : α → α → Int}
structure Mrg (c : α → α → Int) (T : List α) (o a b : List α) : Prop where
 ro : RisingC c o
 ra : RisingC c a
 rb : RisingC c b
 low : ∀ x ∈ o,∀ y,y ∈ a ∨ y ∈ b → ltC c y x = false
 mem : ∀ x,(x ∈ o ∨ x ∈ a ∨ x ∈ b) ↔ x ∈ T
theorem Mrg.swap {T o a b : List α} (h : Mrg c T o a b) : Mrg c T o b a := ⟨h.ro,h.rb,h.ra,fun x hx y hy => h.low x hx y hy.symm,fun x => by rw [← h.mem x];constructor <;> (rintro (h | h | h) <;> simp [h])⟩
theorem ofC_short [DecidableEq α] {l : List α} (h : l.length < 2) : ofC c l = l := match l,h with
 | [],_ => rfl
 | [_],_ => rfl
end
section
variable {α : Type} {c : α → α → Int} (h3 : Cmp3 c)
include h3
theorem Mrg.step {T o a b : List α} {x : α} (h : Mrg c T o (x :: a) b) (hb : ∀ y ∈ b,ltC c y x = false) :
 ((o = [] ∨ ∃ z,o.getLast? = some z ∧ ltC c z x = true) → Mrg c T (o ++ [x]) a b) ∧ (∀ z,o.getLast? = some z → ltC c z x = false → Mrg c T o a b) := by
 have ha := List.pairwise_cons.1 h.ra
 have hlow : ∀ y,y ∈ a ∨ y ∈ b → ltC c y x = false := fun y hy => hy.elim (fun hy => ltC_asymm h3 (ha.1 y hy)) (hb y)
 have key : (o = [] ∨ (∃ z,o.getLast? = some z ∧ ltC c z x = true)) → Mrg c T (o ++ [x]) a b := fun hz => by
  have hox : ∀ y ∈ o,ltC c y x = true := by
   intro y hy
   rcases hz with e | ⟨z,hl,hzx⟩
   ·rw [e] at hy;cases hy
   ·obtain ⟨ys,rfl⟩ := List.getLast?_eq_some_iff.1 hl
    have hp := List.pairwise_append.1 h.ro
    rcases List.mem_append.1 hy with hy | hy
    ·exact ltC_trans h3 (hp.2.2 y hy z (by simp)) hzx
    ·obtain rfl := List.mem_singleton.1 hy;exact hzx
  refine ⟨List.pairwise_append.2 ⟨h.ro,List.pairwise_singleton ..,fun y hy z hz => ?_⟩,ha.2,h.rb,fun y hy z hzz => ?_,fun y => ?_⟩
  ·obtain rfl := List.mem_singleton.1 hz;exact hox y hy
  ·rcases List.mem_append.1 hy with hy | hy
   ·exact h.low y hy z (hzz.elim (fun hz => .inl (List.mem_cons_of_mem _ hz)) .inr)
   ·obtain rfl := List.mem_singleton.1 hy;exact hlow z hzz
  ·rw [← h.mem y]
   simp only [List.mem_append,List.mem_cons,List.not_mem_nil,or_false]
   constructor
   ·rintro ((h | h) | h | h) <;> simp [h]
   ·rintro (h | (h | h) | h) <;> simp [h]
 refine ⟨key,fun z hl hzx => ?_⟩
 ·have hzo : z ∈ o := List.mem_of_getLast? hl
  have hxz : ltC c x z = false := h.low z hzo x (.inl (List.mem_cons_self ..))
  obtain rfl := ltC_tri h3 hzx hxz
  refine ⟨h.ro,ha.2,h.rb,fun y hy w hw => h.low y hy w (hw.elim (fun hw => .inl (List.mem_cons_of_mem _ hw)) .inr),fun y => ?_⟩
  rw [← h.mem y]
  simp only [List.mem_cons]
  constructor
  ·rintro (h | h | h) <;> simp [h]
  ·rintro (h | (rfl | h) | h)
   ·exact .inl h
   ·exact .inl hzo
   ·exact .inr (.inl h)
   ·exact .inr (.inr h)
theorem head_low {l : List α} {y x : α} (h : RisingC c (y :: l)) (hy : ltC c y x = false) : ∀ z ∈ y :: l,ltC c z x = false := fun z hz => by
 rcases List.mem_cons.1 hz with rfl | hz
 ·exact hy
 ·cases e : ltC c z x
  ·rfl
  ·rw [ltC_trans h3 ((List.pairwise_cons.1 h).1 z hz) e] at hy;cases hy
end
section
variable {α : Type} [DecidableEq α] {c : α → α → Int} (h3 : Cmp3 c)
include h3
theorem Mrg.start {p q : List α} : Mrg c (p ++ q) [] (ofC c p) (ofC c q) :=
 ⟨List.Pairwise.nil,ofC_rising h3 p,ofC_rising h3 q,(fun x hx => by cases hx),fun x => by rw [List.mem_append,mem_ofC h3,mem_ofC h3];simp⟩
theorem Mrg.done {T o : List α} (h : Mrg c T o [] []) : o = ofC c T :=
 risingC_ext h3 h.ro (ofC_rising h3 T) fun x => by rw [mem_ofC h3,← h.mem x];simp
end
end
end Go.Proofs.YtdngkcieckejoaaGreat
