/-
  corolaw7.ProofTells ALWAYS ANSWERS TRUE: Size, Check and Prove tell how great any proof is, what is wrong with it, and why any fact is so, as the reference tells it. For any arguments of ordinary size; without conditions.
-/
import Derived.Test.YtdngkcieckejoaaGreatPk13
import Derived.Test.YtdngkcieckejoaaGreatPk30
import Derived.Test.YtdngkcieckejoaaGreatChecked
namespace Go.Proofs.YtdngkcieckejoaaGreat
open Go.RowKit Go.ChangeShapes Go.WideShapes Go.Deep
theorem rd_none7 {α : Type} {k : Nat} {R : Reader α} {S : Nat → Prop} {w : World} : RdSlice k R S w (.slice none 0 0) ([] : List α) := ⟨none,0,rfl,ζn _,Nat.zero_le _,fun _ => rfl,fun i x h => by simp at h⟩
theorem zeroSame7 (w : World) : Calls Tryz.prog 10 #[.agg #[.string ⟨#[]⟩,.slice none 0 0,.int .i64 0,.slice none 0 0],.agg #[.string ⟨#[]⟩,.slice none 0 0,.int .i64 0,.slice none 0 0]] w fun e w' => e = .returned (.bool true) ∧ Below w.heap.size w w' :=
 sameProofRef 0 (S := fun _ => True) (S2 := fun _ => True) (T := fun _ => True) (T2 := fun _ => True) (.mk ⟨⟨#[]⟩,[]⟩ 0 []) (.slice none 0 0) (.slice none 0 0) (.slice none 0 0) (.slice none 0 0) w rd_none7 rd_none7 rd_none7 rd_none7 ⟨Nat.zero_le _,Nat.zero_le _,fun k hk => by cases hk⟩
theorem strN_of : ∀ {d : Nat} {S : Nat → Prop} {w : World} {cs : List Value} {y : PProof},RProofN d S w cs y → sizeP d y ≤ 1048576 → strN d y
 | 0,_,_,_,_,_,_ => trivial
 | d + 1,S,w,cs,y,⟨av,kv,hc,hr,hk⟩,h => by
  have h' : 1 + sizeFact y.fact + 1 + sizeL (sizeP d) y.kids ≤ 1048576 := h
  simp only [sizeFact] at h'
  refine ⟨fun a ha => ?_,fun k hk' => ?_⟩
  ·have h1 := sizeL_mem (size := sizeStr) ha
   have h2 : sizeStr a = a.size + 1 := rfl
   omega
  ·obtain ⟨cs',h2⟩ := RdSlice.some_ hk hk'
   have h3 := sizeL_mem (size := sizeP d) hk'
   exact strN_of h2 (by omega)
theorem Opens.proofArg7 {P : Program} {t : TypeId} (h : Opens P t 4 RTrip (fun y => max 1 y.2.2)) {fs : Array Field} (ht : P.underlying t = some (.struct fs)) {H : Type} {enc : TypeId × Value → H} {W : World} {r : Reach} {b : Nat} {v : Value} {d : DataW H} {p : List MemPlace}
 (hv : Value.okWide P W r b t v) (hd : DataW.Trod enc P W 0 (fun _ => true) true t v d p) (hs : Rows.uptoBulk d ≤ 1048576) :
 ∃ (n : Nat) (x : PProof) (av kv : Value),v = .agg #[.string x.fact.name,av,.int .i64 x.rule,kv] ∧ RdStrs (fun _ => True) W av x.fact.args ∧ RdProofs n (fun _ => True) W kv x.kids ∧ smallN (n + 1) x ∧ strN (n + 1) x ∧ cntN (n + 1) x ≤ 1048576 := by
 obtain ⟨⟨x,dd,ss⟩,cs,rfl,⟨h1,h2⟩,h3⟩ := h.arg ht hv hd
 dsimp only at h1 h2 h3
 have h4 : sizeP dd x ≤ 1048576 := by omega
 cases dd with
 | zero => exact h1.elim
 | succ m =>
  have hsm := smallN_of h1 h4
  have hst := strN_of h1 h4
  have hcn := Nat.le_trans (cnt_sizeP (m + 1) x) h4
  obtain ⟨av,kv,hc,hr,hk⟩ := h1
  exact ⟨m,x,av,kv,by rw [← Array.toArray_toList (xs := cs),hc],hr,hk,hsm,hst,hcn⟩
theorem prove_shape {st : List Int} {q : Int × Int} {p : List PRule} {l : List PFact} {f : PFact} (hS : StrataIs p st q) : (∃ n,proveP st q.1 p l f = (none,n)) ∨ ∃ x,proveP st q.1 p l f = (some x,0) ∧ smallN 62 x := by
 rcases h : proveP st q.1 p l f with ⟨ro,rn⟩
 cases ro with
 | none => exact .inl ⟨rn,rfl⟩
 | some x =>
  obtain ⟨-,-,-,h4,h5⟩ := prove_right (m := 62) hS (by rw [h]) (by decide)
  rw [h] at h5
  exact .inr ⟨x,by rw [show rn = 0 from h5],h4⟩
set_option maxRecDepth 100000 in
set_option maxHeartbeats 0 in
theorem proofTellsCalls {S S3 S4 S5 S6 : Nat → Prop} (p : List PRule) (v fv : Value) (l : List PFact) (f : PFact) (bv : Value) (n : Nat) (x : PProof) (av kv : Value) (w : World) (h : RdRules S w v p) (hf : RdFacts S3 w fv l) (hb : RdStrs S6 w bv f.args) (ha : RdStrs S4 w av x.fact.args) (hk : RdProofs n S5 w kv x.kids) (hs : smallN (n + 1) x) (ht : strN (n + 1) x) (hc : cntN (n + 1) x ≤ 1048576)
 (n1 : p.length ≤ 1048576) (n2 : ∀ r ∈ p,RuleSmall r) (n3 : ∀ r ∈ p,NameSmall r) (n4 : l.length ≤ 1048576) (n5 : FactsSmall l) (n6 : f.args.length ≤ 1048576) (n7 : ∀ a ∈ f.args,a.size ≤ 1048576) (n8 : f.name.size ≤ 1048576) :
 Calls Tryz.prog 3 #[v,fv,.agg #[.string f.name,bv],.agg #[.string x.fact.name,av,.int .i64 x.rule,kv]] w fun e w' => e = .returned (.bool true) ∧ Below w.heap.size w w' := by
 obtain ⟨a,c,rfl,-,-,-⟩ := id h.form
 obtain ⟨fa,fc,rfl,-,-,-⟩ := id hf.form
 obtain ⟨ba,bc,rfl,-,-,-⟩ := id hb.form
 obtain ⟨aa,ac,rfl,-,-,-⟩ := id ha.form
 obtain ⟨ka,kc,rfl,-,-,-⟩ := id hk.form
 obtain ⟨st,q,hS⟩ := exists_strata p
 obtain ⟨W0,hW0⟩ : ∃ W0 : World,(w.alloc (.cells #[.string f.name,.slice ba f.args.length bc] 27)).alloc (.cells #[.string x.fact.name,.slice aa x.fact.args.length ac,.int .i64 x.rule,.slice ka x.kids.length kc] 30) = W0 := ⟨_,rfl⟩
 have HB0 := ζ (show Below w.heap.size w W0 by subst hW0;exact ((ζb _ _).alloc (ζn _) _).alloc (by simp) _)
 have HF0 := ζ (show Blk W0 w.heap.size 27 #[.string f.name,.slice ba f.args.length bc] by subst hW0;exact (Blk.new w _ _).alloc _)
 have HX0 := ζ (show Blk W0 (w.heap.size + 1) 30 #[.string x.fact.name,.slice aa x.fact.args.length ac,.int .i64 x.rule,.slice ka x.kids.length kc] by subst hW0;exact heap_new_at (by simp))
 have x0 := HX0.out.cell 0;have x1 := HX0.out.cell 1;have x2 := HX0.out.cell 2;have x3 := HX0.out.cell 3
 simp only [ζc] at x0 x1 x2 x3
 have KZ := ζ (fun W (hW : Below w.heap.size w W) => sizeCalls n x (.string x.fact.name) (.slice aa x.fact.args.length ac) (.slice ka x.kids.length kc) x.rule W (RdSlice.agree (RProofN.steady n) (Below.agree hW) hk) hc)
 have KZ7 := ζ (fun W (hW : Below w.heap.size w W) => countCalls7 n x (.string x.fact.name) (.slice aa x.fact.args.length ac) (.slice ka x.kids.length kc) x.rule W (RdSlice.agree (RProofN.steady n) (Below.agree hW) hk) hc)
 have KC := ζ (fun W (hW : Below w.heap.size w W) => checkCalls p (.slice a p.length c) (.slice fa l.length fc) st q l n x (.slice aa x.fact.args.length ac) (.slice ka x.kids.length kc) W hS (h.up hW) (RdFacts.up hf hW) (ha.up hW) (RdSlice.agree (RProofN.steady n) (Below.agree hW) hk) hs hc n1 n2 n3 n4 (fun z hz => (n5 z hz).1))
 have KC7 := ζ (fun W (hW : Below w.heap.size w W) => checkRef7 p (.slice a p.length c) (.slice fa l.length fc) st q l n x (.slice aa x.fact.args.length ac) (.slice ka x.kids.length kc) W hS (h.up hW) (RdFacts.up hf hW) (ha.up hW) (RdSlice.agree (RProofN.steady n) (Below.agree hW) hk) hs ht hc n1 n2 n3 n4 n5)
 have KP := ζ (fun W (hW : Below w.heap.size w W) => proveCalls p (.slice a p.length c) (.slice fa l.length fc) st q l f (.slice ba f.args.length bc) W hS (h.up hW) (RdFacts.up hf hW) (hb.up hW) n1 n2 n3 n4 (fun z hz => (n5 z hz).1) n6)
 have KP7 := ζ (fun W (hW : Below w.heap.size w W) => proveRef7 p (.slice a p.length c) (.slice fa l.length fc) st q l f (.slice ba f.args.length bc) W hS (h.up hW) (RdFacts.up hf hW) (hb.up hW) n1 n2 n3 n4 n5 n6 n7 n8)
 have HPS := ζ (prove_shape (l := l) (f := f) hS)
 clear h hf hb ha hk hs ht hc n2 n3 n5 n7 hS
 generalize checkN st q.1 p l (n + 1) x = cx at *
 generalize cntN (n + 1) x = cn at *
 generalize depN (n + 1) x = dn at *
 generalize proveP st q.1 p l f = y at *
 rcases HPS.out with ⟨rn,rfl⟩ | ⟨z,rfl,hz⟩
 ·have HKP := ζ (fun W (hW : Below w.heap.size w W) => (KP.out W hW).mono (R' := fun e w' => e = .returned (.tuple #[.agg #[.string ⟨#[]⟩,.slice none 0 0,.int .i64 0,.slice none 0 0],.int .i64 rn]) ∧ Below W.heap.size W w') fun e w' ⟨h1,h2⟩ => ⟨h2,h1⟩)
  have HKP7 := ζ (fun W (hW : Below w.heap.size w W) => (KP7.out W hW).mono (R' := fun e w' => e = .returned (.tuple #[.agg #[.string ⟨#[]⟩,.slice none 0 0,.int .i64 0,.slice none 0 0],.int .i64 rn]) ∧ Below W.heap.size W w') fun e w' ⟨h1,h2⟩ => ⟨h2,h1⟩)
  clear KP KP7 HPS
  go_enter Tryz.func3,Tryz.ntmps3
  go_wp2_with (first
   | (go_at_call 5;have hh := HB1.out;clear hh;refine (KZ7.out _ HB1.out).mono ?_;rintro e w2 ⟨rfl,hb2⟩;have HB2 := ζ (HB1.out.trans (hb2.mono HB1.out.size));have HX2 := ζ (HX1.out.below hb2 HX1.out.lt);have HF2 := ζ (HF1.out.below hb2 HF1.out.lt);have k0 := HX2.out.cell 0;have k1 := HX2.out.cell 1;have k2 := HX2.out.cell 2;have k3 := HX2.out.cell 3;simp only [ζc] at k0 k1 k2 k3;clear hb2)
   | (go_at_call 4;refine (KZ.out _ HB0.out).mono ?_;rintro e w1 ⟨rfl,hb1⟩;have HB1 := ζ (HB0.out.trans (hb1.mono HB0.out.size));have HX1 := ζ (HX0.out.below hb1 HX0.out.lt);have HF1 := ζ (HF0.out.below hb1 HF0.out.lt);have j0 := HX1.out.cell 0;have j1 := HX1.out.cell 1;have j2 := HX1.out.cell 2;have j3 := HX1.out.cell 3;simp only [ζc] at j0 j1 j2 j3;clear hb1))
  have HBD := ζ HB2.out.drew
  go_region_held3 (fun w' => w'.cell? ⟨w.heap.size + 1,0,none⟩ = some (.string x.fact.name) ∧ w'.cell? ⟨w.heap.size + 1,1,none⟩ = some (.slice aa x.fact.args.length ac) ∧ w'.cell? ⟨w.heap.size + 1,2,none⟩ = some (.int .i64 x.rule) ∧ w'.cell? ⟨w.heap.size + 1,3,none⟩ = some (.slice ka x.kids.length kc))
   (first | (with_reducible exact ⟨m0,m1,m2,m3⟩) | (with_reducible exact ⟨l0,l1,l2,l3⟩) | (with_reducible exact ⟨k0,k1,k2,k3⟩) | go_keep)
   (first
    | (go_at_call 7;have hh := HB3.out;clear hh;(with_reducible refine (KC7.out _ HB3.out).mono ?_);rintro e w4 ⟨rfl,hb4⟩;have HB4 := ζ (HB3.out.trans (hb4.mono HB3.out.size));have HX4 := ζ (HX3.out.below hb4 HX3.out.lt);have HF4 := ζ (HF3.out.below hb4 HF3.out.lt);have m0 := HX4.out.cell 0;have m1 := HX4.out.cell 1;have m2 := HX4.out.cell 2;have m3 := HX4.out.cell 3;have g0 := HF4.out.cell 0;have g1 := HF4.out.cell 1;simp only [ζc] at m0 m1 m2 m3 g0 g1;clear hb4)
    | (go_at_call 6;(with_reducible refine (KC.out _ HBD.out).mono ?_);rintro e w3 ⟨rfl,hb3⟩;have HB3 := ζ (HBD.out.trans (hb3.mono HBD.out.size));have HX3 := ζ (HX2.out.drew.below hb3 HX2.out.drew.lt);have HF3 := ζ (HF2.out.drew.below hb3 HF2.out.drew.lt);have l0 := HX3.out.cell 0;have l1 := HX3.out.cell 1;have l2 := HX3.out.cell 2;have l3 := HX3.out.cell 3;simp only [ζc] at l0 l1 l2 l3;clear hb3))
  go_wp2_with (first
   | (go_at_call 10;have hh := HB8.out;clear hh;refine (zeroSame7 _).mono ?_;rintro e w9 ⟨rfl,hb9⟩;have HB9 := ζ (HB8.out.trans (hb9.mono HB8.out.size));clear hb9)
   | (go_at_call 9;have hh := HB6.out;clear hh;refine (HKP7.out _ HB6.out).mono ?_;rintro e w7 ⟨rfl,hb7⟩;have HB7 := ζ (HB6.out.trans (hb7.mono HB6.out.size));have HB8 := ζ (HB7.out.alloc HB7.out.size (.cells #[.string ⟨#[]⟩,.slice none 0 0,.int .i64 0,.slice none 0 0] 30));have HY8 := ζ ((HY6.out.below hb7 HY6.out.lt).alloc (.cells #[.string ⟨#[]⟩,.slice none 0 0,.int .i64 0,.slice none 0 0] 30));have HV8 := ζ (Blk.new w7 30 #[.string ⟨#[]⟩,.slice none 0 0,.int .i64 0,.slice none 0 0]);have q0 := HY8.out.cell 0;have q1 := HY8.out.cell 1;have q2 := HY8.out.cell 2;have q3 := HY8.out.cell 3;have v0 := HV8.out.cell 0;have v1 := HV8.out.cell 1;have v2 := HV8.out.cell 2;have v3 := HV8.out.cell 3;simp only [ζc] at q0 q1 q2 q3 v0 v1 v2 v3;clear hb7)
   | (go_at_call 8;refine (HKP.out _ HB4.out).mono ?_;rintro e w5 ⟨rfl,hb5⟩;have HB5 := ζ (HB4.out.trans (hb5.mono HB4.out.size));have HB6 := ζ (HB5.out.alloc HB5.out.size (.cells #[.string ⟨#[]⟩,.slice none 0 0,.int .i64 0,.slice none 0 0] 30));have HY6 := ζ (Blk.new w5 30 #[.string ⟨#[]⟩,.slice none 0 0,.int .i64 0,.slice none 0 0]);have HF6 := ζ ((HF4.out.below hb5 HF4.out.lt).alloc (.cells #[.string ⟨#[]⟩,.slice none 0 0,.int .i64 0,.slice none 0 0] 30));have u0 := HF6.out.cell 0;have u1 := HF6.out.cell 1;simp only [ζc] at u0 u1;clear hb5))
  go_ret
  exact ⟨rfl,HB9.out⟩
 ·have HKP := ζ (fun W (hW : Below w.heap.size w W) => (KP.out W hW).mono (R' := fun e w' => (∃ aa ac ka kc,e = .returned (.tuple #[.agg #[.string z.fact.name,.slice aa z.fact.args.length ac,.int .i64 z.rule,.slice ka z.kids.length kc],.int .i64 0]) ∧ RdStrs (fun _ => True) w' (.slice aa z.fact.args.length ac) z.fact.args ∧ RdProofs 61 (fun _ => True) w' (.slice ka z.kids.length kc) z.kids) ∧ Below W.heap.size W w') fun e w' ⟨h1,aa,ac,ka,kc,h2,h3,h4⟩ => ⟨⟨aa,ac,ka,kc,h2,h3.more ζS (fun _ _ _ => trivial),h4.more (RProofN.steady 61) (fun _ _ _ => trivial)⟩,h1⟩)
  have HKP7 := ζ (fun W (hW : Below w.heap.size w W) => (KP7.out W hW).mono (R' := fun e w' => (∃ aa ac ka kc,e = .returned (.tuple #[.agg #[.string z.fact.name,.slice aa z.fact.args.length ac,.int .i64 z.rule,.slice ka z.kids.length kc],.int .i64 0]) ∧ RdStrs (fun _ => True) w' (.slice aa z.fact.args.length ac) z.fact.args ∧ RdProofs 61 (fun _ => True) w' (.slice ka z.kids.length kc) z.kids) ∧ Below W.heap.size W w') fun e w' ⟨h1,h2⟩ => ⟨h2,h1⟩)
  have HZ := ζ hz
  clear KP KP7 HPS hz
  go_enter Tryz.func3,Tryz.ntmps3
  go_wp2_with (first
   | (go_at_call 5;have hh := HB1.out;clear hh;refine (KZ7.out _ HB1.out).mono ?_;rintro e w2 ⟨rfl,hb2⟩;have HB2 := ζ (HB1.out.trans (hb2.mono HB1.out.size));have HX2 := ζ (HX1.out.below hb2 HX1.out.lt);have HF2 := ζ (HF1.out.below hb2 HF1.out.lt);have k0 := HX2.out.cell 0;have k1 := HX2.out.cell 1;have k2 := HX2.out.cell 2;have k3 := HX2.out.cell 3;simp only [ζc] at k0 k1 k2 k3;clear hb2)
   | (go_at_call 4;refine (KZ.out _ HB0.out).mono ?_;rintro e w1 ⟨rfl,hb1⟩;have HB1 := ζ (HB0.out.trans (hb1.mono HB0.out.size));have HX1 := ζ (HX0.out.below hb1 HX0.out.lt);have HF1 := ζ (HF0.out.below hb1 HF0.out.lt);have j0 := HX1.out.cell 0;have j1 := HX1.out.cell 1;have j2 := HX1.out.cell 2;have j3 := HX1.out.cell 3;simp only [ζc] at j0 j1 j2 j3;clear hb1))
  have HBD := ζ HB2.out.drew
  go_region_held3 (fun w' => w'.cell? ⟨w.heap.size + 1,0,none⟩ = some (.string x.fact.name) ∧ w'.cell? ⟨w.heap.size + 1,1,none⟩ = some (.slice aa x.fact.args.length ac) ∧ w'.cell? ⟨w.heap.size + 1,2,none⟩ = some (.int .i64 x.rule) ∧ w'.cell? ⟨w.heap.size + 1,3,none⟩ = some (.slice ka x.kids.length kc))
   (first | (with_reducible exact ⟨m0,m1,m2,m3⟩) | (with_reducible exact ⟨l0,l1,l2,l3⟩) | (with_reducible exact ⟨k0,k1,k2,k3⟩) | go_keep)
   (first
    | (go_at_call 7;have hh := HB3.out;clear hh;(with_reducible refine (KC7.out _ HB3.out).mono ?_);rintro e w4 ⟨rfl,hb4⟩;have HB4 := ζ (HB3.out.trans (hb4.mono HB3.out.size));have HX4 := ζ (HX3.out.below hb4 HX3.out.lt);have HF4 := ζ (HF3.out.below hb4 HF3.out.lt);have m0 := HX4.out.cell 0;have m1 := HX4.out.cell 1;have m2 := HX4.out.cell 2;have m3 := HX4.out.cell 3;have g0 := HF4.out.cell 0;have g1 := HF4.out.cell 1;simp only [ζc] at m0 m1 m2 m3 g0 g1;clear hb4)
    | (go_at_call 6;(with_reducible refine (KC.out _ HBD.out).mono ?_);rintro e w3 ⟨rfl,hb3⟩;have HB3 := ζ (HBD.out.trans (hb3.mono HBD.out.size));have HX3 := ζ (HX2.out.drew.below hb3 HX2.out.drew.lt);have HF3 := ζ (HF2.out.drew.below hb3 HF2.out.drew.lt);have l0 := HX3.out.cell 0;have l1 := HX3.out.cell 1;have l2 := HX3.out.cell 2;have l3 := HX3.out.cell 3;simp only [ζc] at l0 l1 l2 l3;clear hb3))
  go_wp2_with (first
   | (go_at_call 10;have hh := HB8.out;clear hh;refine (sameProofRef 61 z _ _ _ _ _ HRA8.out HRB8.out HRK8.out HRL8.out HZ.out).mono ?_;rintro e w9 ⟨rfl,hb9⟩;have HB9 := ζ (HB8.out.trans (hb9.mono HB8.out.size));clear hb9)
   | (go_at_call 9;have hh := HB6.out;clear hh;refine (HKP7.out _ HB6.out).mono ?_;rintro e w7 ⟨⟨a7,c7,k7,l7,rfl,hra7,hrk7⟩,hb7⟩;have HB7 := ζ (HB6.out.trans (hb7.mono HB6.out.size));have HB8 := ζ (HB7.out.alloc HB7.out.size (.cells #[.string z.fact.name,.slice a7 z.fact.args.length c7,.int .i64 z.rule,.slice k7 z.kids.length l7] 30));have HY8 := ζ ((HY6.out.below hb7 HY6.out.lt).alloc (.cells #[.string z.fact.name,.slice a7 z.fact.args.length c7,.int .i64 z.rule,.slice k7 z.kids.length l7] 30));have HV8 := ζ (Blk.new w7 30 #[.string z.fact.name,.slice a7 z.fact.args.length c7,.int .i64 z.rule,.slice k7 z.kids.length l7]);have hbz := (ζb w7.heap.size w7).alloc (ζn _) (.cells #[.string z.fact.name,.slice a7 z.fact.args.length c7,.int .i64 z.rule,.slice k7 z.kids.length l7] 30);have HRB8 := ζ (hra7.up hbz);have HRL8 := ζ (RdSlice.agree (RProofN.steady 61) (Below.agree hbz) hrk7);have HRA8 := ζ ((HRA6.out.up hb7).up hbz);have HRK8 := ζ (RdSlice.agree (RProofN.steady 61) (Below.agree hbz) (RdSlice.agree (RProofN.steady 61) (Below.agree hb7) HRK6.out));have q0 := HY8.out.cell 0;have q1 := HY8.out.cell 1;have q2 := HY8.out.cell 2;have q3 := HY8.out.cell 3;have v0 := HV8.out.cell 0;have v1 := HV8.out.cell 1;have v2 := HV8.out.cell 2;have v3 := HV8.out.cell 3;simp only [ζc] at q0 q1 q2 q3 v0 v1 v2 v3;clear hb7 hra7 hrk7 hbz)
   | (go_at_call 8;refine (HKP.out _ HB4.out).mono ?_;rintro e w5 ⟨⟨a5,c5,k5,l5,rfl,hra5,hrk5⟩,hb5⟩;have HB5 := ζ (HB4.out.trans (hb5.mono HB4.out.size));have HB6 := ζ (HB5.out.alloc HB5.out.size (.cells #[.string z.fact.name,.slice a5 z.fact.args.length c5,.int .i64 z.rule,.slice k5 z.kids.length l5] 30));have HY6 := ζ (Blk.new w5 30 #[.string z.fact.name,.slice a5 z.fact.args.length c5,.int .i64 z.rule,.slice k5 z.kids.length l5]);have HF6 := ζ ((HF4.out.below hb5 HF4.out.lt).alloc (.cells #[.string z.fact.name,.slice a5 z.fact.args.length c5,.int .i64 z.rule,.slice k5 z.kids.length l5] 30));have hbz := (ζb w5.heap.size w5).alloc (ζn _) (.cells #[.string z.fact.name,.slice a5 z.fact.args.length c5,.int .i64 z.rule,.slice k5 z.kids.length l5] 30);have HRA6 := ζ (hra5.up hbz);have HRK6 := ζ (RdSlice.agree (RProofN.steady 61) (Below.agree hbz) hrk5);have u0 := HF6.out.cell 0;have u1 := HF6.out.cell 1;simp only [ζc] at u0 u1;clear hb5 hra5 hrk5 hbz))
  go_ret
  exact ⟨rfl,HB9.out⟩
namespace proofTells
theorem own : ownKnob Tryz.prog.godebug = none := by kernel_rfl
set_option maxRecDepth 100000 in
theorem contract (H : Type) (enc : TypeId × Value → H) (W : World) (base : Nat) (args : Array Value) (ds gs : List (DataW H)) (before : List MemPlace)
 (hval : ∀ (j : Nat) t v,Tryz.f3.params[j]? = some t → args[j]? = some v → Value.okWide Tryz.prog W .any base t v)
 (hW : DataW.Whole enc Tryz.prog Tryz.f3.params.toList Rows.proofTellsSpec.vars false W args.toList ds gs before) (hk : Rows.uptoSmall H (ds ++ gs) = true) :
 Calls Tryz.prog 3 args W fun e W' => ∃ v,e = .returned v ∧ Rows.proofTellsSpec.post enc Tryz.prog Tryz.f3 false true false false W args v W' := by
 have hW' := hW
 obtain ⟨p,q,hA0,hV,rfl,hfz,hnd⟩ := hW
 have hA : DataW.TrodAll enc Tryz.prog W 0 (fun _ => true) true Tryz.f3.params.toList args.toList ds p := hA0
 rw [Tryz.params3] at hA hval
 obtain ⟨v0,v1,v2,v3,d0,d1,d2,d3,p0,p1,p2,p3,rfl,rfl,rfl,h0,h1,h2,h3⟩ := trodAll_four hA
 obtain ⟨rfl,rfl⟩ := trodVars_none hV
 obtain ⟨x0,r0,s0⟩ := openRule.sliceArg Tryz.underlying23 (hval 0 23 v0 rfl rfl) h0
 obtain ⟨x1,r1,s1⟩ := openFact.sliceArg Tryz.underlying24 (hval 1 24 v1 rfl rfl) h1
 obtain ⟨x2,a2,rfl,r2,s2⟩ := openFact.factArg Tryz.underlying27 (hval 2 27 v2 rfl rfl) h2
 rw [List.append_nil] at hk
 have hb : Rows.uptoBulkAll [d0,d1,d2,d3] ≤ 1048576 := of_decide_eq_true hk
 simp only [Rows.uptoBulkAll] at hb
 obtain ⟨l0,m0,k0⟩ := rules_small (p := x0) (by omega)
 have l1 := sizeL_le openFact.one x1
 have m1 : FactsSmall x1 := fun z hz => by
  have h1 := sizeL_mem (size := sizeFact) hz
  have h2 := sizeL_le openStr.one z.args
  simp only [sizeFact,sizeStr] at h1
  refine ⟨by omega,by omega,fun a ha => ?_⟩
  have h3 := sizeL_mem (size := sizeStr) ha
  simp only [sizeStr] at h3
  omega
 have l2 := sizeL_le openStr.one x2.args
 simp only [sizeFact,sizeStr] at s2
 have m2 : ∀ a ∈ x2.args,a.size ≤ 1048576 := fun a ha => by
  have h3 := sizeL_mem (size := sizeStr) ha
  simp only [sizeStr] at h3
  omega
 obtain ⟨d3_,x3,av3,kv3,rfl,r3,q3,l3,t3,m3⟩ := openProof.proofArg7 Tryz.underlying30 (hval 3 30 v3 rfl rfl) h3 (by omega)
 refine (proofTellsCalls x0 v0 v1 x1 x2 _ d3_ x3 av3 kv3 W r0 r1 r2 r3 q3 l3 t3 m3 l0 m0 k0 (by omega) m1 (by omega) m2 (by omega)).mono fun e W' ⟨he,hb'⟩ => ?_
 subst he
 exact ⟨_,rfl,law_post (tb := 4) hW' rfl rfl (by kernel_rfl) Tryz.underlying4 (by kernel_rfl) (by kernel_rfl) hb'⟩
set_option maxRecDepth 100000 in
theorem lifted (os : Os) (started : os.Started) (H : Type) (enc : TypeId × Value → H) (F : Stop.Interp) :
 ReturnsInHanded {} Tryz.checked os 3 .any ((Rows.OpenSpec.upto Rows.proofTellsSpec).pre6 enc Tryz.prog Tryz.f3 Rows.proofTellsUptoRow.domain false) (((Rows.OpenSpec.upto Rows.proofTellsSpec).at F).post enc Tryz.prog Tryz.f3 false true false false) := by
 refine returnsInHanded_of_cond (C := Tryz.checked) (s := Rows.OpenSpec.upto Rows.proofTellsSpec) (k := Rows.uptoSmall) rfl own started (by kernel_rfl) Tryz.func3
  (OpenSpec.witness (enc := enc) (C := Tryz.checked) (s := Rows.OpenSpec.upto Rows.proofTellsSpec) (k := Rows.uptoSmall) rfl false ⟨#[],#[.slice none 0 0,.slice none 0 0,.agg #[.string .empty,.slice none 0 0],.agg #[.string .empty,.slice none 0 0,.int .i64 0,.slice none 0 0]],[]⟩ 8 (by kernel_rfl) (by kernel_rfl) (by kernel_rfl)
   (x := ([.nil,.nil,.agg [.lit (.string []),.nil],.agg [.agg [.lit (.string []),.nil],.lit (.int .i64 0),.nil]],[],[])) (by kernel_rfl) rfl (by kernel_rfl)) ?_
 intro W base args ds gs before hval hW _ hk _
 exact contract H enc W base args ds gs before hval hW hk
theorem proved : Rows.ProofTellsUptoSaid :=
 OpenClaim.holds_of_cond 3 Tryz.f3 rfl rfl rfl rfl rfl rfl rfl ⟨rfl,rfl,rfl,rfl,rfl⟩ rfl rfl rfl rfl rfl (by kernel_rfl) Tryz.func3 (by kernel_rfl)
  (of_decide_eq_true (by kernel_rfl)) (by unfold Func.isWrapper;first | (rw [if_pos (by decide +kernel)];kernel_rfl) | (rw [if_neg (by decide +kernel)];exact ⟨rfl,rfl⟩))
  (fun os started H enc _ F => lifted os started H enc F)
end proofTells
end Go.Proofs.YtdngkcieckejoaaGreat
