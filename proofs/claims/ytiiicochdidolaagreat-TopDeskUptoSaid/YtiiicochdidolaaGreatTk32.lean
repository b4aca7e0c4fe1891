/-
  THE WALK OF desk's do, at a proof.
-/
import Derived.Test.YtiiicochdidolaaGreatTk22
import Derived.Test.YtiiicochdidolaaGreatTk27
import Derived.Test.YtiiicochdidolaaGreatTk31
namespace Go.Proofs.YtiiicochdidolaaGreat
open Go.RowKit
theorem run_small {sp : StrataFn} {d : PDesk} (h : DeskOk sp d) : RunSmall d.run := by
  have hg : ∀ {l : List PFact},Good l → l.length ≤ 1048576 ∧ ∀ x ∈ l,x.args.length ≤ 1048576 := fun {l} hl => ⟨by have := hl.len;omega,fun x hx => by have := (wrongF_zero.1 (hl.fine x hx)).2.1;omega⟩
  cases hr : d.running
  · rw [h.none_ hr]
    exact ⟨by decide,(fun x hx => by cases hx),by decide,(fun x hx => by cases hx)⟩
  · have h1 := (h.run hr).ok
    exact ⟨(hg h1.known).1,(hg h1.known).2,(hg h1.new).1,(hg h1.new).2⟩
structure DoAt (w : World) (b off : Nat) (x : PDo) (aa : Option Addr) (ac : Nat) : Prop where
  lt : b < w.heap.size
  c0 : w.cell? ⟨b,off,none⟩ = some (.int .i64 x.kind)
  c1 : w.cell? ⟨b,off + 1,none⟩ = some (.int .i64 x.n)
  c2 : w.cell? ⟨b,off + 2,none⟩ = some (.string x.fact.name)
  c3 : w.cell? ⟨b,off + 3,none⟩ = some (.slice aa x.fact.args.length ac)
  c4 : w.cell? ⟨b,off + 4,none⟩ = some (.string x.text)
  args : RdStrs (fun _ => True) w (.slice aa x.fact.args.length ac) x.fact.args
theorem DoAt.up {w w' : World} {b off : Nat} {x : PDo} {aa : Option Addr} {ac : Nat} (h : DoAt w b off x aa ac) (hb : Below w.heap.size w w') : DoAt w' b off x aa ac :=
  ⟨Nat.lt_of_lt_of_le h.lt hb.size,(cell_below hb h.lt _).trans h.c0,(cell_below hb h.lt _).trans h.c1,(cell_below hb h.lt _).trans h.c2,(cell_below hb h.lt _).trans h.c3,(cell_below hb h.lt _).trans h.c4,RdStrs.up h.args hb⟩
theorem do_end {T : Nat → Prop} {D A : Nat} {r : PDesk × PAns} {w W0 w1 : World} {e : Ending} (hp : DoPost (fun q => T q ∧ q ≠ A) D r W0 e w1) (hA : A = w.heap.size) (hW : W0.heap.size = A + 1) (hb : But D w W0) (hD : D < A) (u0 u1 u2 u3 u4 u5 u6 u7 : Value) : DoPost T D r w e (set8 w1 A u0 u1 u2 u3 u4 u5 u6 u7) := by
  obtain ⟨⟨tv,rv,kv,nv,sv,hd⟩,hb1,ba,bc,s0,aa,an,ac,rl,ka,kn,kc,he,hr⟩ := hp
  refine ⟨(hd.set8 (fun h => h.2 rfl) (by omega) u0 u1 u2 u3 u4 u5 u6 u7).dk (fun q hq => hq.1),but_set8 (hb.trans hb1) (by omega) u0 u1 u2 u3 u4 u5 u6 u7,ba,bc,s0,aa,an,ac,rl,ka,kn,kc,he,?_⟩
  exact (RdSlice.agree RBinds.steady (agree_set8 (S := New W0) (by show ¬ W0.heap.size ≤ A;omega) u0 u1 u2 u3 u4 u5 u6 u7) hr).more RBinds.steady (fun q hq _ => by have h : W0.heap.size ≤ q := hq;show w.heap.size ≤ q;omega)
theorem do_from {T : Nat → Prop} {D : Nat} {r : PDesk × PAns} {W0 w1 w2 : World} {e : Ending} (h : DoPost T D r w1 e w2) (hb : But D W0 w1) : DoPost T D r W0 e w2 := by
  obtain ⟨h1,h2,ba,bc,s0,aa,an,ac,rl,ka,kn,kc,he,hr⟩ := h
  exact ⟨h1,hb.trans h2,ba,bc,s0,aa,an,ac,rl,ka,kn,kc,he,hr.more RBinds.steady (fun q hq _ => Nat.le_trans hb.size hq)⟩
theorem saved_of {S : Nat → Prop} {B : Nat} {w : World} {a : Option Addr} {c : Nat} {b : Bytes} (h : OwnB B w (.slice a b.length c) b) (hl : 0 < b.length) (hS : ∀ q,B ≤ q → S q) : SavedRd S (some b) w (.slice a b.length c) := by
  have hr : RdBytes S w (.slice a b.length c) b := (h.read RU8.steady).more RU8.steady (fun q hq _ => hq.elim False.elim (hS q))
  obtain ⟨a',c',hv,-,-,-,h3⟩ := id hr
  obtain ⟨q,o,cs,ha,-⟩ := h3 0 b[0] (List.getElem?_eq_getElem hl)
  injection hv with e1 e2 e3
  subst e1
  subst ha
  exact ⟨_,c,rfl,hr⟩
theorem RunPost.facts {T : Nat → Prop} {r : PRun × Int} {w : World} {e : Ending} {w' : World} (h : RunPost r w e w') (hT : ∀ q,w.heap.size ≤ q → T q) :
    Below w.heap.size w w' ∧ ∃ a c b d,e = .returned (.tuple #[.agg #[.slice a r.1.known.length c,.slice b r.1.new.length d,.int .i64 r.1.stratum,.int .i64 r.1.rounds,.bool r.1.done],.int .i64 r.2]) ∧ RdFacts T w' (.slice a r.1.known.length c) r.1.known ∧ RdFacts T w' (.slice b r.1.new.length d) r.1.new := by
  obtain ⟨h1,a,c,b,d,he,h2,h3⟩ := h
  exact ⟨h1,a,c,b,d,he,h2.more RFact.steady (fun q hq _ => hT q hq),h3.more RFact.steady (fun q hq _ => hT q hq)⟩
theorem ProvePost.cells {r : Option PProof × Int} {w : World} {e : Ending} {w' : World} (h : ProvePost r w e w') : Below w.heap.size w w' ∧ ∃ s0 aa an ac rl ka kn kc,e = .returned (.tuple #[.agg #[.string s0,.slice aa an ac,.int .i64 rl,.slice ka kn kc],.int .i64 r.2]) := by
  obtain ⟨h1,h2⟩ := h
  refine ⟨h1,?_⟩
  cases hr : r.1 with
  | none => rw [hr] at h2;exact ⟨_,_,_,_,_,_,_,_,h2⟩
  | some x =>
    rw [hr] at h2
    obtain ⟨aa,ac,ka,kc,he,-,-⟩ := h2
    exact ⟨_,_,_,_,_,_,_,_,he⟩
theorem DkAt.setSaved {S : Nat → Prop} {D : Nat} {d : PDesk} {tv rv kv nv sv xv : Value} {w : World} {b : Bytes} (h : DkAt S D d tv rv kv nv sv w) (hD : ¬ S D) (hs : SavedRd S (some b) w xv) : DkAt S D { d with saved := some b } tv rv kv nv xv (w.setCell ⟨D,8,none⟩ xv) :=
  ⟨h.blk.set_ 8 _,h.told.agree (Agree.setCell hD _),h.rules.agree (Agree.setCell hD _),h.known.agree (Agree.setCell hD _),h.new.agree (Agree.setCell hD _),hs.agree (Agree.setCell hD _)⟩
attribute [local go_sem ↓] Go.wp_at_zero Go.wp_at_succ
set_option maxRecDepth 100000 in
set_option maxHeartbeats 16000000 in
theorem deskDo6 {sp : StrataFn} (hsp : ∀ p,StrataIs p (sp p).1 (sp p).2) (D : Nat) (d : PDesk) (x : PDo) (b off : Nat) (aa : Option Addr) (ac : Nat) (w : World) {T : Nat → Prop} (hTD : ¬ T D) (hTn : ∀ q,w.heap.size ≤ q → T q) (h : Dk T D d w) (hx : DoAt w b off x aa ac)
    (hok : DeskOk sp d) (hro : RulesOk d) (n1 : x.fact.args.length ≤ 1048576) (n2 : x.text.size ≤ 1048576) (k6 : x.kind = 6) :
    Calls Tryz.prog 21 #[.pointer (some ⟨D,0,none⟩),.pointer (some ⟨b,off,none⟩)] w (DoPost T D (doP sp d x) w) := by
  obtain ⟨tv,rv,kv,nv,sv,hd⟩ := h.split
  obtain ⟨ta,tc,rfl,-,-,-⟩ := id hd.told.form
  obtain ⟨ra,rc,rfl,-,-,-⟩ := id hd.rules.form
  obtain ⟨ka,kc,rfl,-,-,-⟩ := id hd.known.form
  obtain ⟨na,nc,rfl,-,-,-⟩ := id hd.new.form
  have hDw := hd.lt
  obtain ⟨W0,hW0⟩ : ∃ W0 : World,w.alloc (.cells #[.int .i64 0,.int .i64 0,.int .i64 0,.slice none 0 0,.string ⟨#[]⟩,.slice none 0 0,.int .i64 0,.slice none 0 0] 46) = W0 := ⟨_,rfl⟩
  have HD0 := Lib.hid (show DkAt (fun q => T q ∧ q ≠ w.heap.size) D d (.slice ta d.told.length tc) (.slice ra d.rules.length rc) (.slice ka d.run.known.length kc) (.slice na d.run.new.length nc) sv W0 by subst hW0;exact (hd.more (S' := fun q => T q ∧ q ≠ w.heap.size) fun q hq _ => ⟨hq.2,by omega⟩).alloc _)
  have HB0 := Lib.hid (show But D w W0 by subst hW0;exact (But.refl D w).alloc _)
  have HA0 := Lib.hid (show Blk W0 w.heap.size 46 #[.int .i64 0,.int .i64 0,.int .i64 0,.slice none 0 0,.string ⟨#[]⟩,.slice none 0 0,.int .i64 0,.slice none 0 0] by subst hW0;exact Blk.new w _ _)
  have HX0 := Lib.hid (show DoAt W0 b off x aa ac by subst hW0;exact hx.up ((Below.refl _ _).alloc (Nat.le_refl _) _))
  have hs0 : W0.heap.size = w.heap.size + 1 := by subst hW0;simp
  have HK0 := Lib.hid (show Dk (fun q => T q ∧ q ≠ w.heap.size) D d W0 from ⟨_,_,_,_,_,HD0.out⟩)
  have hTD' : ¬ (T D ∧ D ≠ w.heap.size) := fun h => hTD h.1
  have hTn' : ∀ q,W0.heap.size ≤ q → T q ∧ q ≠ w.heap.size := fun q hq => ⟨hTn q (by omega),by omega⟩
  have HTN := Lib.hid (fun (W : World) (h : W0.heap.size ≤ W.heap.size) => show ∀ q,W.heap.size ≤ q → T q ∧ q ≠ w.heap.size from fun q hq => hTn' q (Nat.le_trans h hq))
  have HRS := Lib.hid (run_small hok)
  have hrl : d.rules.length ≤ 1048576 := by have := hok.few;omega
  have HR1 := Lib.hid (show ∀ r ∈ d.rules,RuleSmall r from fun r hr => ruleOk_small (hro r hr))
  have HR2 := Lib.hid (show ∀ r ∈ d.rules,NameSmall r from fun r hr => ruleOk_names (hro r hr))
  have htl : d.told.length ≤ 1048576 := by have := hok.told.len;omega
  have HT2 := Lib.hid (show ∀ x ∈ d.told,x.args.length ≤ 1048576 from fun x hx => by have := (wrongF_zero.1 (hok.told.fine x hx)).2.1;omega)
  have HSP := Lib.hid (hsp d.rules)
  have HGT := Lib.hid hok.told
  have HTP := Lib.hid (show doP sp d x = if x.kind = 1 then tellP d x.fact else if x.kind = 2 then rulesP sp d x.text else if x.kind = 3 then setD d (beginP (sp d.rules).1 (sp d.rules).2.1 d.rules d.told)
    else if x.kind = 5 then (d,askP d x.text) else if x.kind = 6 then (d,proveD sp d x.fact) else if x.kind = 8 then backD sp d
    else if x.kind = 4 then (if d.running then setD d (stepsRun (sp d.rules).1 (sp d.rules).2.1 d.rules d.run x.n) else (d,ansE 11 0))
    else if x.kind = 7 then (if d.running then saveD sp d else (d,ansE 11 0)) else (d,ansE 1 0) from rfl)
  have hA0 := HA0.out.lt
  have x0 := HX0.out.c0;have x1 := HX0.out.c1;have x2 := HX0.out.c2;have x3 := HX0.out.c3;have x4 := HX0.out.c4
  have t0 := HD0.out.blk.cell 0;have t1 := HD0.out.blk.cell 1;have t2 := HD0.out.blk.cell 2;have t3 := HD0.out.blk.cell 3;have t4 := HD0.out.blk.cell 4;have t5 := HD0.out.blk.cell 5;have t6 := HD0.out.blk.cell 6;have t7 := HD0.out.blk.cell 7;have t8 := HD0.out.blk.cell 8
  simp only [List.getElem?_toArray,List.getElem?_cons_zero,List.getElem?_cons_succ] at t0 t1 t2 t3 t4 t5 t6 t7 t8
  have c0 := HA0.out.cell 0;have c1 := HA0.out.cell 1;have c2 := HA0.out.cell 2;have c3 := HA0.out.cell 3;have c4 := HA0.out.cell 4;have c5 := HA0.out.cell 5;have c6 := HA0.out.cell 6;have c7 := HA0.out.cell 7;have f0 := HA0.out.frozen 0;have f1 := HA0.out.frozen 1;have f2 := HA0.out.frozen 2;have f3 := HA0.out.frozen 3;have f4 := HA0.out.frozen 4;have f5 := HA0.out.frozen 5;have f6 := HA0.out.frozen 6;have f7 := HA0.out.frozen 7;simp only [List.getElem?_toArray,List.getElem?_cons_zero,List.getElem?_cons_succ] at c0 c1 c2 c3 c4 c5 c6 c7
  have KTELL := Lib.hid (deskTell D d x.fact (.slice aa x.fact.args.length ac) W0 hTD' hTn' HK0.out HX0.out.args HGT.out n1)
  have KRULE := Lib.hid (deskRules hsp D d x.text W0 hTD' hTn' HK0.out n2)
  have KASK := Lib.hid (deskAsk D d x.text W0 hTD' hTn' HK0.out n2 HRS.out.k1 HRS.out.k2)
  clear hd h hx hok hro hsp
  generalize doP sp d x = TP at *
  have k1 : x.kind ≠ 1 := by omega
  have k2 : x.kind ≠ 2 := by omega
  have k3 : x.kind ≠ 3 := by omega
  have k5 : x.kind ≠ 5 := by omega
  have HE := Lib.hid (show TP = (d,proveD sp d x.fact) by rw [HTP.out];rw [if_neg k1,if_neg k2,if_neg k3,if_neg k5,if_pos k6])
  rw [k6] at x0
  clear HTP KTELL KRULE KASK
  have KQ := Lib.hid (fun W (hW : Below W0.heap.size W0 W) => proveCalls d.rules (.slice ra d.rules.length rc) (.slice ta d.told.length tc) (sp d.rules).1 (sp d.rules).2 d.told x.fact (.slice aa x.fact.args.length ac) W HSP.out (HD0.out.below hW).rules (HD0.out.below hW).told (RdStrs.up HX0.out.args hW) hrl HR1.out HR2.out htl HT2.out n1)
  have HE2 := Lib.hid (show (proveD sp d x.fact).err = (proveP (sp d.rules).1 (sp d.rules).2.1 d.rules d.told x.fact).2 ∧ (proveD sp d x.fact).at' = 0 ∧ (proveD sp d x.fact).n = 0 ∧ (proveD sp d x.fact).binds = [] from ⟨rfl,rfl,rfl,rfl⟩)
  generalize proveD sp d x.fact = pd at *
  generalize proveP (sp d.rules).1 (sp d.rules).2.1 d.rules d.told x.fact = rr at *
  obtain ⟨ro,re⟩ := rr
  obtain ⟨pe,pat,pn,pb,pp⟩ := pd
  obtain ⟨e1,e2,e3,e4⟩ := HE2.out
  dsimp only at e1 e2 e3 e4
  subst e1 e2 e3 e4
  clear HE2
  have HDS := Lib.hid (show DkAt (fun q => (T q ∧ q ≠ w.heap.size) ∧ q ≠ w.heap.size + 1) D d _ _ _ _ sv W0 from HD0.out.more (fun q hq hl => ⟨hq,by omega⟩))
  have HF0 := Lib.hid (show Blk (W0.alloc (.cells #[.string ⟨#[]⟩,.slice none 0 0,.int .i64 0,.slice none 0 0] 44)) (w.heap.size + 1) 44 #[.string ⟨#[]⟩,.slice none 0 0,.int .i64 0,.slice none 0 0] by rw [← hs0];exact Blk.new W0 _ _)
  have hbz : Below W0.heap.size W0 ((W0.alloc (.cells #[.string ⟨#[]⟩,.slice none 0 0,.int .i64 0,.slice none 0 0] 44)).drew) := ((Below.refl _ _).alloc (Nat.le_refl _) _).drew
  have HDZ := Lib.hid (HD0.out.alloc (.cells #[.string ⟨#[]⟩,.slice none 0 0,.int .i64 0,.slice none 0 0] 44))
  have HXZ := Lib.hid (HX0.out.up ((Below.refl W0.heap.size W0).alloc (Nat.le_refl _) (.cells #[.string ⟨#[]⟩,.slice none 0 0,.int .i64 0,.slice none 0 0] 44)))
  have z0 := HDZ.out.blk.cell 0;have z1 := HDZ.out.blk.cell 1;have z2 := HXZ.out.c2;have z3 := HXZ.out.c3
  simp only [List.getElem?_toArray,List.getElem?_cons_zero,List.getElem?_cons_succ] at z0 z1
  have hDn : ¬ ((T (w.heap.size + 1) ∧ w.heap.size + 1 ≠ w.heap.size) ∧ w.heap.size + 1 ≠ w.heap.size + 1) := fun h => h.2 rfl
  have hDn2 : D ≠ w.heap.size + 1 := by omega
  go_enter Tryz.func21,Tryz.ntmps21
  go_wp2
  go_region_law (first
    | (go_simp;go_at_call 49;refine (KQ.out _ hbz).mono ?_;rintro e w7 hp;obtain ⟨hb7,s0,a9,n9,c9,r9,ka9,kn9,kc9,rfl⟩ := hp.cells;have HD7 := Lib.hid ((HDS.out.alloc (.cells #[.string ⟨#[]⟩,.slice none 0 0,.int .i64 0,.slice none 0 0] 44)).drew.below hb7);have HB7 := Lib.hid (((But.refl D W0).alloc (.cells #[.string ⟨#[]⟩,.slice none 0 0,.int .i64 0,.slice none 0 0] 44)).drew.below hb7);have HF7 := Lib.hid (HF0.out.drew.below hb7 HF0.out.lt);have HA7 := Lib.hid (HA0.out.but HB7.out (by omega));have m0 := HF7.out.cell 0;have m1 := HF7.out.cell 1;have m2 := HF7.out.cell 2;have m3 := HF7.out.cell 3;have mf0 := HF7.out.frozen 0;have mf1 := HF7.out.frozen 1;have mf2 := HF7.out.frozen 2;have mf3 := HF7.out.frozen 3;simp only [List.getElem?_toArray,List.getElem?_cons_zero,List.getElem?_cons_succ] at m0 m1 m2 m3;clear hb7 hp)
    | (go_simp;go_at_call 49;refine (KQ.out _ (Below.refl _ _).drew).mono ?_;rintro e w7 hp;obtain ⟨hb7,s0,a9,n9,c9,r9,ka9,kn9,kc9,rfl⟩ := hp.cells;have HD8 := Lib.hid ((HD0.out.drew.below hb7).alloc (.cells #[.string s0,.slice a9 n9 c9,.int .i64 r9,.slice ka9 kn9 kc9] 44));have HB8 := Lib.hid (((But.refl D W0).drew.below hb7).alloc (.cells #[.string s0,.slice a9 n9 c9,.int .i64 r9,.slice ka9 kn9 kc9] 44));have HF8 := Lib.hid (Blk.new w7 44 #[.string s0,.slice a9 n9 c9,.int .i64 r9,.slice ka9 kn9 kc9]);have HA8 := Lib.hid (HA0.out.but HB8.out (by omega));have c0 := HA8.out.cell 0;have c1 := HA8.out.cell 1;have c2 := HA8.out.cell 2;have c3 := HA8.out.cell 3;have c4 := HA8.out.cell 4;have c5 := HA8.out.cell 5;have c6 := HA8.out.cell 6;have c7 := HA8.out.cell 7;have f0 := HA8.out.frozen 0;have f1 := HA8.out.frozen 1;have f2 := HA8.out.frozen 2;have f3 := HA8.out.frozen 3;have f4 := HA8.out.frozen 4;have f5 := HA8.out.frozen 5;have f6 := HA8.out.frozen 6;have f7 := HA8.out.frozen 7;simp only [List.getElem?_toArray,List.getElem?_cons_zero,List.getElem?_cons_succ] at c0 c1 c2 c3 c4 c5 c6 c7;have m0 := HF8.out.cell 0;have m1 := HF8.out.cell 1;have m2 := HF8.out.cell 2;have m3 := HF8.out.cell 3;simp only [List.getElem?_toArray,List.getElem?_cons_zero,List.getElem?_cons_succ] at m0 m1 m2 m3;clear hb7 hp))
  all_goals
    first
      | (have HD8 := Lib.hid ((((HD7.out.far (p := ⟨w.heap.size + 1,0,none⟩) hDn hDn2 (.string s0)).far (p := ⟨w.heap.size + 1,1,none⟩) hDn hDn2 (.slice a9 n9 c9)).far (p := ⟨w.heap.size + 1,2,none⟩) hDn hDn2 (.int .i64 r9)).far (p := ⟨w.heap.size + 1,3,none⟩) hDn hDn2 (.slice ka9 kn9 kc9));have HB8 := Lib.hid ((((HB7.out.setCell (p := ⟨w.heap.size + 1,0,none⟩) (.inr (by show W0.heap.size ≤ w.heap.size + 1;omega)) (.string s0)).setCell (p := ⟨w.heap.size + 1,1,none⟩) (.inr (by show W0.heap.size ≤ w.heap.size + 1;omega)) (.slice a9 n9 c9)).setCell (p := ⟨w.heap.size + 1,2,none⟩) (.inr (by show W0.heap.size ≤ w.heap.size + 1;omega)) (.int .i64 r9)).setCell (p := ⟨w.heap.size + 1,3,none⟩) (.inr (by show W0.heap.size ≤ w.heap.size + 1;omega)) (.slice ka9 kn9 kc9));have b0 := HF7.out.set_ 0 (.string s0);have b1 := b0.set_ 1 (.slice a9 n9 c9);have b2 := b1.set_ 2 (.int .i64 r9);have HF8 := Lib.hid (show Blk _ (w.heap.size + 1) 44 #[.string s0,.slice a9 n9 c9,.int .i64 r9,.slice ka9 kn9 kc9] from b2.set_ 3 (.slice ka9 kn9 kc9));have HA8 := Lib.hid (HA0.out.but HB8.out (by omega));clear b0 b1 b2 HF7 HD7 HB7;have m0 := HF8.out.cell 0;have m1 := HF8.out.cell 1;have m2 := HF8.out.cell 2;have m3 := HF8.out.cell 3;simp only [List.getElem?_toArray,List.getElem?_cons_zero,List.getElem?_cons_succ] at m0 m1 m2 m3;have c0 := HA8.out.cell 0;have c1 := HA8.out.cell 1;have c2 := HA8.out.cell 2;have c3 := HA8.out.cell 3;have c4 := HA8.out.cell 4;have c5 := HA8.out.cell 5;have c6 := HA8.out.cell 6;have c7 := HA8.out.cell 7;have f0 := HA8.out.frozen 0;have f1 := HA8.out.frozen 1;have f2 := HA8.out.frozen 2;have f3 := HA8.out.frozen 3;have f4 := HA8.out.frozen 4;have f5 := HA8.out.frozen 5;have f6 := HA8.out.frozen 6;have f7 := HA8.out.frozen 7;simp only [List.getElem?_toArray,List.getElem?_cons_zero,List.getElem?_cons_succ] at c0 c1 c2 c3 c4 c5 c6 c7)
      | skip
    go_wp2
    refine bodyPost_ret (v := .agg #[.int .i64 pe,.int .i64 0,.int .i64 0,.slice none 0 0,.string s0,.slice a9 n9 c9,.int .i64 r9,.slice ka9 kn9 kc9]) (by simp [results,Tryz.results21,go_sem,c0,c1,c2,c3,c4,c5,c6,c7]) rfl (do_end ⟨by rw [HE.out];first | exact HD8.out.dk (fun q hq => hq) | exact HD8.out.dk (fun q hq => hq.1),HB8.out,none,0,s0,a9,n9,c9,r9,ka9,kn9,kc9,by rw [HE.out];rfl,by rw [HE.out];exact RdBindss.nil⟩ rfl hs0 HB0.out hDw _ _ _ _ _ _ _ _)
end Go.Proofs.YtiiicochdidolaaGreat
