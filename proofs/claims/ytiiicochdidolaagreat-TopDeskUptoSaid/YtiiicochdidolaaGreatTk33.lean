/-
  THE WALK OF desk's do: one thing is done.
-/
import Derived.Test.YtiiicochdidolaaGreatTk32
namespace Go.Proofs.YtiiicochdidolaaGreat
open Go.RowKit
attribute [local go_sem ↓] Go.wp_at_zero Go.wp_at_succ
set_option maxRecDepth 100000 in
set_option maxHeartbeats 16000000 in
theorem deskDo {sp : StrataFn} (hsp : ∀ p,StrataIs p (sp p).1 (sp p).2) (D : Nat) (d : PDesk) (x : PDo) (b off : Nat) (aa : Option Addr) (ac : Nat) (w : World) {T : Nat → Prop} (hTD : ¬ T D) (hTn : ∀ q,w.heap.size ≤ q → T q) (h : Dk T D d w) (hx : DoAt w b off x aa ac)
    (hok : DeskOk sp d) (hro : RulesOk d) (n1 : x.fact.args.length ≤ 1048576) (n2 : x.text.size ≤ 1048576) :
    Calls Tryz.prog 21 #[.pointer (some ⟨D,0,none⟩),.pointer (some ⟨b,off,none⟩)] w (DoPost T D (doP sp d x) w) := by
  by_cases k6 : x.kind = 6
  · exact deskDo6 hsp D d x b off aa ac w hTD hTn h hx hok hro n1 n2 k6
  obtain ⟨tv,rv,kv,nv,sv,hd⟩ := h.split
  obtain ⟨ta,tc,rfl,-,-,-⟩ := id hd.told.form
  obtain ⟨ra,rc,rfl,-,-,-⟩ := id hd.rules.form
  obtain ⟨ka,kc,rfl,-,-,-⟩ := id hd.known.form
  obtain ⟨na,nc,rfl,-,-,-⟩ := id hd.new.form
  have hDw := hd.lt
  obtain ⟨W0,hW0⟩ : ∃ W0 : World,w.alloc (.cells #[.int .i64 0,.int .i64 0,.int .i64 0,.slice none 0 0,.string ⟨#[]⟩,.slice none 0 0,.int .i64 0,.slice none 0 0] 46) = W0 := ⟨_,rfl⟩
  have HD0 := Lib.hid (show DkAt (fun q => T q ∧ q ≠ w.heap.size) D d (.slice ta d.told.length tc) (.slice ra d.rules.length rc) (.slice ka d.run.known.length kc) (.slice na d.run.new.length nc) sv W0 by subst hW0;exact (hd.more (S' := fun q => T q ∧ q ≠ w.heap.size) fun q hq _ => ⟨hq.2,by omega⟩).alloc _)
  have HB0 := Lib.hid (show But D w W0 by subst hW0;exact (But.refl D w).alloc _)
  have HA0 := Lib.hid (show Blk W0 w.heap.size 46 #[.int .i64 0,.int .i64 0,.int .i64 0,.slice none 0 0,.string ⟨#[]⟩,.slice none 0 0,.int .i64 0,.slice none 0 0] by subst hW0;exact Blk.new w _ _)
  have HX0 := Lib.hid (show DoAt W0 b off x aa ac by subst hW0;exact hx.up ((Below.refl _ _).alloc (Nat.le_refl _) _))
  have hs0 : W0.heap.size = w.heap.size + 1 := by subst hW0;simp
  have HK0 := Lib.hid (show Dk (fun q => T q ∧ q ≠ w.heap.size) D d W0 from ⟨_,_,_,_,_,HD0.out⟩)
  have hTD' : ¬ (T D ∧ D ≠ w.heap.size) := fun h => hTD h.1
  have hTn' : ∀ q,W0.heap.size ≤ q → T q ∧ q ≠ w.heap.size := fun q hq => ⟨hTn q (by omega),by omega⟩
  have HTN := Lib.hid (fun (W : World) (h : W0.heap.size ≤ W.heap.size) => show ∀ q,W.heap.size ≤ q → T q ∧ q ≠ w.heap.size from fun q hq => hTn' q (Nat.le_trans h hq))
  have HRS := Lib.hid (run_small hok)
  have hrl : d.rules.length ≤ 1048576 := by have := hok.few;omega
  have HR1 := Lib.hid (show ∀ r ∈ d.rules,RuleSmall r from fun r hr => ruleOk_small (hro r hr))
  have HR2 := Lib.hid (show ∀ r ∈ d.rules,NameSmall r from fun r hr => ruleOk_names (hro r hr))
  have htl : d.told.length ≤ 1048576 := by have := hok.told.len;omega
  have HT2 := Lib.hid (show ∀ x ∈ d.told,x.args.length ≤ 1048576 from fun x hx => by have := (wrongF_zero.1 (hok.told.fine x hx)).2.1;omega)
  have HSP := Lib.hid (hsp d.rules)
  have HGT := Lib.hid hok.told
  have HTP := Lib.hid (show doP sp d x = if x.kind = 1 then tellP d x.fact else if x.kind = 2 then rulesP sp d x.text else if x.kind = 3 then setD d (beginP (sp d.rules).1 (sp d.rules).2.1 d.rules d.told)
    else if x.kind = 5 then (d,askP d x.text) else if x.kind = 6 then (d,proveD sp d x.fact) else if x.kind = 8 then backD sp d
    else if x.kind = 4 then (if d.running then setD d (stepsRun (sp d.rules).1 (sp d.rules).2.1 d.rules d.run x.n) else (d,ansE 11 0))
    else if x.kind = 7 then (if d.running then saveD sp d else (d,ansE 11 0)) else (d,ansE 1 0) from rfl)
  have hA0 := HA0.out.lt
  have x0 := HX0.out.c0;have x1 := HX0.out.c1;have x2 := HX0.out.c2;have x3 := HX0.out.c3;have x4 := HX0.out.c4
  have t0 := HD0.out.blk.cell 0;have t1 := HD0.out.blk.cell 1;have t2 := HD0.out.blk.cell 2;have t3 := HD0.out.blk.cell 3;have t4 := HD0.out.blk.cell 4;have t5 := HD0.out.blk.cell 5;have t6 := HD0.out.blk.cell 6;have t7 := HD0.out.blk.cell 7;have t8 := HD0.out.blk.cell 8
  simp only [List.getElem?_toArray,List.getElem?_cons_zero,List.getElem?_cons_succ] at t0 t1 t2 t3 t4 t5 t6 t7 t8
  have c0 := HA0.out.cell 0;have c1 := HA0.out.cell 1;have c2 := HA0.out.cell 2;have c3 := HA0.out.cell 3;have c4 := HA0.out.cell 4;have c5 := HA0.out.cell 5;have c6 := HA0.out.cell 6;have c7 := HA0.out.cell 7;have f0 := HA0.out.frozen 0;have f1 := HA0.out.frozen 1;have f2 := HA0.out.frozen 2;have f3 := HA0.out.frozen 3;have f4 := HA0.out.frozen 4;have f5 := HA0.out.frozen 5;have f6 := HA0.out.frozen 6;have f7 := HA0.out.frozen 7;simp only [List.getElem?_toArray,List.getElem?_cons_zero,List.getElem?_cons_succ] at c0 c1 c2 c3 c4 c5 c6 c7
  have KTELL := Lib.hid (deskTell D d x.fact (.slice aa x.fact.args.length ac) W0 hTD' hTn' HK0.out HX0.out.args HGT.out n1)
  have KRULE := Lib.hid (deskRules hsp D d x.text W0 hTD' hTn' HK0.out n2)
  have KASK := Lib.hid (deskAsk D d x.text W0 hTD' hTn' HK0.out n2 HRS.out.k1 HRS.out.k2)
  clear hd h hx hok hro hsp
  generalize doP sp d x = TP at *
  by_cases k1 : x.kind = 1
  · have HE := Lib.hid (show TP = tellP d x.fact from by rw [HTP.out];rw [if_pos k1])
    rw [k1] at x0
    rw [← HE.out] at KTELL
    clear HE HTP KRULE KASK
    go_enter Tryz.func21,Tryz.ntmps21
    go_wp2_with (go_at_call 44;refine (KTELL.out).mono ?_;rintro e w9 hp;have HP9 := Lib.hid hp;obtain ⟨-,hb9,ba,bc,s0,a9,n9,c9,r9,ka9,kn9,kc9,rfl,-⟩ := hp;have HA9 := Lib.hid (HA0.out.but hb9 (by omega));have c0 := HA9.out.cell 0;have c1 := HA9.out.cell 1;have c2 := HA9.out.cell 2;have c3 := HA9.out.cell 3;have c4 := HA9.out.cell 4;have c5 := HA9.out.cell 5;have c6 := HA9.out.cell 6;have c7 := HA9.out.cell 7;have f0 := HA9.out.frozen 0;have f1 := HA9.out.frozen 1;have f2 := HA9.out.frozen 2;have f3 := HA9.out.frozen 3;have f4 := HA9.out.frozen 4;have f5 := HA9.out.frozen 5;have f6 := HA9.out.frozen 6;have f7 := HA9.out.frozen 7;simp only [List.getElem?_toArray,List.getElem?_cons_zero,List.getElem?_cons_succ] at c0 c1 c2 c3 c4 c5 c6 c7;clear hb9)
    refine bodyPost_ret (v := ansV TP.2 (.slice ba TP.2.binds.length bc) s0 a9 n9 c9 r9 ka9 kn9 kc9) (by simp [results,Tryz.results21,go_sem,c0,c1,c2,c3,c4,c5,c6,c7]) rfl (do_end HP9.out rfl hs0 HB0.out hDw _ _ _ _ _ _ _ _)
  by_cases k2 : x.kind = 2
  · have HE := Lib.hid (show TP = rulesP sp d x.text from by rw [HTP.out];rw [if_neg k1,if_pos k2])
    rw [k2] at x0
    rw [← HE.out] at KRULE
    clear HE HTP KTELL KASK
    go_enter Tryz.func21,Tryz.ntmps21
    go_wp2_with (go_at_call 45;refine (KRULE.out).mono ?_;rintro e w9 hp;have HP9 := Lib.hid hp;obtain ⟨-,hb9,ba,bc,s0,a9,n9,c9,r9,ka9,kn9,kc9,rfl,-⟩ := hp;have HA9 := Lib.hid (HA0.out.but hb9 (by omega));have c0 := HA9.out.cell 0;have c1 := HA9.out.cell 1;have c2 := HA9.out.cell 2;have c3 := HA9.out.cell 3;have c4 := HA9.out.cell 4;have c5 := HA9.out.cell 5;have c6 := HA9.out.cell 6;have c7 := HA9.out.cell 7;have f0 := HA9.out.frozen 0;have f1 := HA9.out.frozen 1;have f2 := HA9.out.frozen 2;have f3 := HA9.out.frozen 3;have f4 := HA9.out.frozen 4;have f5 := HA9.out.frozen 5;have f6 := HA9.out.frozen 6;have f7 := HA9.out.frozen 7;simp only [List.getElem?_toArray,List.getElem?_cons_zero,List.getElem?_cons_succ] at c0 c1 c2 c3 c4 c5 c6 c7;clear hb9)
    refine bodyPost_ret (v := ansV TP.2 (.slice ba TP.2.binds.length bc) s0 a9 n9 c9 r9 ka9 kn9 kc9) (by simp [results,Tryz.results21,go_sem,c0,c1,c2,c3,c4,c5,c6,c7]) rfl (do_end HP9.out rfl hs0 HB0.out hDw _ _ _ _ _ _ _ _)
  by_cases k3 : x.kind = 3
  · have HE := Lib.hid (show TP = setD d (beginP (sp d.rules).1 (sp d.rules).2.1 d.rules d.told) by rw [HTP.out];rw [if_neg k1,if_neg k2,if_pos k3])
    rw [k3] at x0
    clear HTP KTELL KRULE KASK
    have KR := Lib.hid (beginCalls d.rules (.slice ra d.rules.length rc) (.slice ta d.told.length tc) (sp d.rules).1 (sp d.rules).2 d.told W0.drew HSP.out HD0.out.drew.rules HD0.out.drew.told hrl HR1.out HR2.out htl HT2.out)
    generalize beginP (sp d.rules).1 (sp d.rules).2.1 d.rules d.told = rr at *
    go_enter Tryz.func21,Tryz.ntmps21
    go_wp2
    go_region_law (first
      | (go_simp;go_at_call 46;refine (deskSet D d rr.1 rr.2 _ _ _ hTD' (HTN.out w7 hs7) ⟨_,_,_,_,_,HD7.out⟩ HY7.out HZ7.out).mono ?_;rintro e w9 hp;have HP9 := Lib.hid (show DoPost _ D TP W0 e w9 by rw [HE.out];exact do_from hp HB7.out);obtain ⟨-,hb9,ba,bc,s0,a9,n9,c9,r9,ka9,kn9,kc9,rfl,-⟩ := id HP9.out;have HA9 := Lib.hid (HA0.out.but hb9 (by omega));have c0 := HA9.out.cell 0;have c1 := HA9.out.cell 1;have c2 := HA9.out.cell 2;have c3 := HA9.out.cell 3;have c4 := HA9.out.cell 4;have c5 := HA9.out.cell 5;have c6 := HA9.out.cell 6;have c7 := HA9.out.cell 7;have f0 := HA9.out.frozen 0;have f1 := HA9.out.frozen 1;have f2 := HA9.out.frozen 2;have f3 := HA9.out.frozen 3;have f4 := HA9.out.frozen 4;have f5 := HA9.out.frozen 5;have f6 := HA9.out.frozen 6;have f7 := HA9.out.frozen 7;simp only [List.getElem?_toArray,List.getElem?_cons_zero,List.getElem?_cons_succ] at c0 c1 c2 c3 c4 c5 c6 c7;clear hb9 hp)
      | (go_simp;go_at_call 47;refine (KR.out).mono ?_;rintro e w7 hp;obtain ⟨hb7,a7,c7',b7,d7,rfl,hy7,hz7⟩ := hp.facts (HTN.out _ (Nat.le_refl _));have HD7 := Lib.hid (HD0.out.drew.below hb7);have HB7 := Lib.hid ((But.refl D W0).drew.below hb7);have hs7 := HB7.out.size;have HY7 := Lib.hid hy7;have HZ7 := Lib.hid hz7;clear hb7 hp hy7 hz7))
    all_goals
      go_wp2
      refine bodyPost_ret (v := ansV TP.2 (.slice ba TP.2.binds.length bc) s0 a9 n9 c9 r9 ka9 kn9 kc9) (by simp [results,Tryz.results21,go_sem,c0,c1,c2,c3,c4,c5,c6,c7]) rfl (do_end HP9.out rfl hs0 HB0.out hDw _ _ _ _ _ _ _ _)
  by_cases k5 : x.kind = 5
  · have HE := Lib.hid (show TP = (d,askP d x.text) from by rw [HTP.out];rw [if_neg k1,if_neg k2,if_neg k3,if_pos k5])
    rw [k5] at x0
    rw [← HE.out] at KASK
    clear HE HTP KTELL KRULE
    go_enter Tryz.func21,Tryz.ntmps21
    go_wp2_with (go_at_call 48;refine (KASK.out).mono ?_;rintro e w9 hp;have HP9 := Lib.hid hp;obtain ⟨-,hb9,ba,bc,s0,a9,n9,c9,r9,ka9,kn9,kc9,rfl,-⟩ := hp;have HA9 := Lib.hid (HA0.out.but hb9 (by omega));have c0 := HA9.out.cell 0;have c1 := HA9.out.cell 1;have c2 := HA9.out.cell 2;have c3 := HA9.out.cell 3;have c4 := HA9.out.cell 4;have c5 := HA9.out.cell 5;have c6 := HA9.out.cell 6;have c7 := HA9.out.cell 7;have f0 := HA9.out.frozen 0;have f1 := HA9.out.frozen 1;have f2 := HA9.out.frozen 2;have f3 := HA9.out.frozen 3;have f4 := HA9.out.frozen 4;have f5 := HA9.out.frozen 5;have f6 := HA9.out.frozen 6;have f7 := HA9.out.frozen 7;simp only [List.getElem?_toArray,List.getElem?_cons_zero,List.getElem?_cons_succ] at c0 c1 c2 c3 c4 c5 c6 c7;clear hb9)
    refine bodyPost_ret (v := ansV TP.2 (.slice ba TP.2.binds.length bc) s0 a9 n9 c9 r9 ka9 kn9 kc9) (by simp [results,Tryz.results21,go_sem,c0,c1,c2,c3,c4,c5,c6,c7]) rfl (do_end HP9.out rfl hs0 HB0.out hDw _ _ _ _ _ _ _ _)
  by_cases k8 : x.kind = 8
  · have HBK := Lib.hid (show TP = backD sp d by rw [HTP.out];rw [if_neg k1,if_neg k2,if_neg k3,if_neg k5,if_neg k6,if_pos k8])
    rw [k8] at x0
    clear HTP KTELL KRULE KASK
    have HSV := Lib.hid HD0.out.drew.saved
    have HSV0 := Lib.hid HD0.out.saved
    cases hsv : d.saved with
    | none =>
      have HE := Lib.hid (show TP = (d,ansE 6 0) by rw [HBK.out];unfold backD;rw [hsv])
      rw [hsv] at HSV0
      obtain rfl := HSV0.out
      have heq := fun (w : World) (a : Option Addr) (n c n' c' : Nat) => Lib.run_eql_slice_nil (P := Tryz.prog) w 29 5 a n c n' c' Tryz.underlying29
      go_enter Tryz.func21,Tryz.ntmps21
      go_wp2
      refine bodyPost_ret (v := .agg #[.int .i64 6,.int .i64 0,.int .i64 0,.slice none 0 0,.string ⟨#[]⟩,.slice none 0 0,.int .i64 0,.slice none 0 0]) (by simp [results,Tryz.results21,go_sem,c0,c1,c2,c3,c4,c5,c6,c7]) rfl (DoPost.plain HE.out ((HD0.out.set8 (fun h => h.2 rfl) (by omega) _ _ _ _ _ _ _ _).dk (fun q hq => hq.1)) (but_set8 HB0.out (Nat.le_refl _) _ _ _ _ _ _ _ _))
    | some sb =>
      have HE := Lib.hid (show TP = setD d (loadP (sp d.rules).1 (sp d.rules).2.1 d.rules sb) by rw [HBK.out];unfold backD;rw [hsv])
      rw [hsv] at HSV HSV0
      obtain ⟨sa,sc,rfl,hsr⟩ := HSV0.out
      have KR := Lib.hid (loadCalls d.rules (.slice ra d.rules.length rc) (.slice (some sa) sb.length sc) (sp d.rules).1 (sp d.rules).2 sb W0.drew HSP.out HD0.out.drew.rules (hsr.agree RU8.steady (Agree.refl _ _).drew) hrl HR1.out HR2.out)
      generalize loadP (sp d.rules).1 (sp d.rules).2.1 d.rules sb = rr at *
      clear HBK HSV HSV0 hsr
      have heq := fun (w : World) (a : Option Addr) (n c n' c' : Nat) => Lib.run_eql_slice_nil (P := Tryz.prog) w 29 5 a n c n' c' Tryz.underlying29
      go_enter Tryz.func21,Tryz.ntmps21
      go_wp2
      go_region_law (first
        | (go_simp;go_at_call 46;refine (deskSet D d rr.1 rr.2 _ _ _ hTD' (HTN.out w7 hs7) ⟨_,_,_,_,_,HD7.out⟩ HY7.out HZ7.out).mono ?_;rintro e w9 hp;have HP9 := Lib.hid (show DoPost _ D TP W0 e w9 by rw [HE.out];exact do_from hp HB7.out);obtain ⟨-,hb9,ba,bc,s0,a9,n9,c9,r9,ka9,kn9,kc9,rfl,-⟩ := id HP9.out;have HA9 := Lib.hid (HA0.out.but hb9 (by omega));have c0 := HA9.out.cell 0;have c1 := HA9.out.cell 1;have c2 := HA9.out.cell 2;have c3 := HA9.out.cell 3;have c4 := HA9.out.cell 4;have c5 := HA9.out.cell 5;have c6 := HA9.out.cell 6;have c7 := HA9.out.cell 7;have f0 := HA9.out.frozen 0;have f1 := HA9.out.frozen 1;have f2 := HA9.out.frozen 2;have f3 := HA9.out.frozen 3;have f4 := HA9.out.frozen 4;have f5 := HA9.out.frozen 5;have f6 := HA9.out.frozen 6;have f7 := HA9.out.frozen 7;simp only [List.getElem?_toArray,List.getElem?_cons_zero,List.getElem?_cons_succ] at c0 c1 c2 c3 c4 c5 c6 c7;clear hb9 hp)
        | (go_simp;go_at_call 20;refine (KR.out).mono ?_;rintro e w7 hp;obtain ⟨hb7,a7,c7',b7,d7,rfl,hy7,hz7⟩ := hp.facts (HTN.out _ (Nat.le_refl _));have HD7 := Lib.hid (HD0.out.drew.below hb7);have HB7 := Lib.hid ((But.refl D W0).drew.below hb7);have hs7 := HB7.out.size;have HY7 := Lib.hid hy7;have HZ7 := Lib.hid hz7;clear hb7 hp hy7 hz7))
      all_goals
        go_wp2
        refine bodyPost_ret (v := ansV TP.2 (.slice ba TP.2.binds.length bc) s0 a9 n9 c9 r9 ka9 kn9 kc9) (by simp [results,Tryz.results21,go_sem,c0,c1,c2,c3,c4,c5,c6,c7]) rfl (do_end HP9.out rfl hs0 HB0.out hDw _ _ _ _ _ _ _ _)
  by_cases k4 : x.kind = 4
  · cases hrun : d.running
    · have HE := Lib.hid (show TP = (d,ansE 11 0) by rw [HTP.out];rw [if_neg k1,if_neg k2,if_neg k3,if_neg k5,if_neg k6,if_neg k8,if_pos k4,if_neg (by rw [hrun];decide)])
      rw [k4] at x0
      rw [hrun] at t2
      clear HTP KTELL KRULE KASK
      go_enter Tryz.func21,Tryz.ntmps21
      go_wp2
      refine bodyPost_ret (v := .agg #[.int .i64 11,.int .i64 0,.int .i64 0,.slice none 0 0,.string ⟨#[]⟩,.slice none 0 0,.int .i64 0,.slice none 0 0]) (by simp [results,Tryz.results21,go_sem,c0,c1,c2,c3,c4,c5,c6,c7]) rfl (DoPost.plain HE.out ((HD0.out.set8 (fun h => h.2 rfl) (by omega) _ _ _ _ _ _ _ _).dk (fun q hq => hq.1)) (but_set8 HB0.out (Nat.le_refl _) _ _ _ _ _ _ _ _))
    have HE := Lib.hid (show TP = setD d (stepsRun (sp d.rules).1 (sp d.rules).2.1 d.rules d.run x.n) by rw [HTP.out];rw [if_neg k1,if_neg k2,if_neg k3,if_neg k5,if_neg k6,if_neg k8,if_pos k4,if_pos hrun])
    rw [k4] at x0
    clear HTP KTELL KRULE KASK
    have KR := Lib.hid (stepsRunCalls d.rules (.slice ra d.rules.length rc) (sp d.rules).1 (sp d.rules).2 d.run (.slice ka d.run.known.length kc) (.slice na d.run.new.length nc) x.n W0.drew HSP.out HD0.out.drew.rules ⟨RdFacts.any HD0.out.drew.known,RdFacts.any HD0.out.drew.new⟩ hrl HR1.out HR2.out HRS.out)
    generalize stepsRun (sp d.rules).1 (sp d.rules).2.1 d.rules d.run x.n = rr at *
    rw [hrun] at t2
    go_enter Tryz.func21,Tryz.ntmps21
    go_wp2
    go_region_law (first
      | (go_simp;go_at_call 46;refine (deskSet D d rr.1 rr.2 _ _ _ hTD' (HTN.out w7 hs7) ⟨_,_,_,_,_,HD7.out⟩ HY7.out HZ7.out).mono ?_;rintro e w9 hp;have HP9 := Lib.hid (show DoPost _ D TP W0 e w9 by rw [HE.out];exact do_from hp HB7.out);obtain ⟨-,hb9,ba,bc,s0,a9,n9,c9,r9,ka9,kn9,kc9,rfl,-⟩ := id HP9.out;have HA9 := Lib.hid (HA0.out.but hb9 (by omega));have c0 := HA9.out.cell 0;have c1 := HA9.out.cell 1;have c2 := HA9.out.cell 2;have c3 := HA9.out.cell 3;have c4 := HA9.out.cell 4;have c5 := HA9.out.cell 5;have c6 := HA9.out.cell 6;have c7 := HA9.out.cell 7;have f0 := HA9.out.frozen 0;have f1 := HA9.out.frozen 1;have f2 := HA9.out.frozen 2;have f3 := HA9.out.frozen 3;have f4 := HA9.out.frozen 4;have f5 := HA9.out.frozen 5;have f6 := HA9.out.frozen 6;have f7 := HA9.out.frozen 7;simp only [List.getElem?_toArray,List.getElem?_cons_zero,List.getElem?_cons_succ] at c0 c1 c2 c3 c4 c5 c6 c7;clear hb9 hp)
      | (go_simp;go_at_call 50;refine (KR.out).mono ?_;rintro e w7 hp;obtain ⟨hb7,a7,c7',b7,d7,rfl,hy7,hz7⟩ := hp.facts (HTN.out _ (Nat.le_refl _));have HD7 := Lib.hid (HD0.out.drew.below hb7);have HB7 := Lib.hid ((But.refl D W0).drew.below hb7);have hs7 := HB7.out.size;have HY7 := Lib.hid hy7;have HZ7 := Lib.hid hz7;clear hb7 hp hy7 hz7))
    all_goals
      go_wp2
      refine bodyPost_ret (v := ansV TP.2 (.slice ba TP.2.binds.length bc) s0 a9 n9 c9 r9 ka9 kn9 kc9) (by simp [results,Tryz.results21,go_sem,c0,c1,c2,c3,c4,c5,c6,c7]) rfl (do_end HP9.out rfl hs0 HB0.out hDw _ _ _ _ _ _ _ _)
  by_cases k7 : x.kind = 7
  · cases hrun : d.running
    · have HE := Lib.hid (show TP = (d,ansE 11 0) by rw [HTP.out];rw [if_neg k1,if_neg k2,if_neg k3,if_neg k5,if_neg k6,if_neg k8,if_neg k4,if_pos k7,if_neg (by rw [hrun];decide)])
      rw [k7] at x0
      rw [hrun] at t2
      clear HTP KTELL KRULE KASK
      go_enter Tryz.func21,Tryz.ntmps21
      go_wp2
      refine bodyPost_ret (v := .agg #[.int .i64 11,.int .i64 0,.int .i64 0,.slice none 0 0,.string ⟨#[]⟩,.slice none 0 0,.int .i64 0,.slice none 0 0]) (by simp [results,Tryz.results21,go_sem,c0,c1,c2,c3,c4,c5,c6,c7]) rfl (DoPost.plain HE.out ((HD0.out.set8 (fun h => h.2 rfl) (by omega) _ _ _ _ _ _ _ _).dk (fun q hq => hq.1)) (but_set8 HB0.out (Nat.le_refl _) _ _ _ _ _ _ _ _))
    have HSD := Lib.hid (show TP = saveD sp d by rw [HTP.out];rw [if_neg k1,if_neg k2,if_neg k3,if_neg k5,if_neg k6,if_neg k8,if_neg k4,if_pos k7,if_pos hrun])
    rw [k7] at x0
    rw [hrun] at t2
    clear HTP KTELL KRULE KASK
    have KR := Lib.hid (saveCalls d.rules (.slice ra d.rules.length rc) (sp d.rules).1 (sp d.rules).2 d.run (.slice ka d.run.known.length kc) (.slice na d.run.new.length nc) W0.drew HSP.out HD0.out.drew.rules ⟨RdFacts.any HD0.out.drew.known,RdFacts.any HD0.out.drew.new⟩ hrl HR1.out HR2.out HRS.out)
    by_cases hb : runBad (sp d.rules).1 (sp d.rules).2.1 d.rules d.run = 0
    · have HE := Lib.hid (show TP = ({ d with saved := some (runB8 d.run) },ansN (runB8 d.run).length) by rw [HSD.out];unfold saveD;rw [save_good hb,if_neg (fun h => h rfl)])
      rw [save_good hb] at KR
      have hlen : 0 < (runB8 d.run).length := by unfold runB8;simp
      generalize runB8 d.run = rb at *
      clear HSD hb
      go_enter Tryz.func21,Tryz.ntmps21
      go_wp2
      go_region_law (first
        | (go_simp;go_at_call 51;refine (KR.out).mono ?_;rintro e w7 ⟨hb7,a9,c9,rfl,ho7⟩;have HD8 := Lib.hid (HD0.out.drew.below hb7);have HB8 := Lib.hid ((But.refl D W0).drew.below hb7);have HA8 := Lib.hid (HA0.out.but HB8.out (by omega));have HS8 := Lib.hid (saved_of (S := fun q => T q ∧ q ≠ w.heap.size) ho7 hlen (HTN.out _ (Nat.le_refl _)));have u8 := HD8.out.blk.cell 8;have v8 := HD8.out.blk.frozen 8;simp only [List.getElem?_toArray,List.getElem?_cons_zero,List.getElem?_cons_succ] at u8;have c0 := HA8.out.cell 0;have c1 := HA8.out.cell 1;have c2 := HA8.out.cell 2;have c3 := HA8.out.cell 3;have c4 := HA8.out.cell 4;have c5 := HA8.out.cell 5;have c6 := HA8.out.cell 6;have c7 := HA8.out.cell 7;have f0 := HA8.out.frozen 0;have f1 := HA8.out.frozen 1;have f2 := HA8.out.frozen 2;have f3 := HA8.out.frozen 3;have f4 := HA8.out.frozen 4;have f5 := HA8.out.frozen 5;have f6 := HA8.out.frozen 6;have f7 := HA8.out.frozen 7;simp only [List.getElem?_toArray,List.getElem?_cons_zero,List.getElem?_cons_succ] at c0 c1 c2 c3 c4 c5 c6 c7;clear hb7 ho7))
      all_goals
        have HD9 := Lib.hid (HD8.out.setSaved hTD' HS8.out)
        have HB9 := Lib.hid (HB8.out.setCell (p := ⟨D,8,none⟩) (.inl rfl) (.slice a9 rb.length c9))
        go_wp2
        refine bodyPost_ret (v := .agg #[.int .i64 0,.int .i64 0,.int .i64 rb.length,.slice none 0 0,.string ⟨#[]⟩,.slice none 0 0,.int .i64 0,.slice none 0 0]) (by simp [results,Tryz.results21,go_sem,c0,c1,c2,c3,c4,c5,c6,c7]) rfl (do_end (DoPost.plain HE.out (HD9.out.dk (fun q hq => hq)) HB9.out) rfl hs0 HB0.out hDw _ _ _ _ _ _ _ _)
    · have HE := Lib.hid (show TP = (d,ansE (runBad (sp d.rules).1 (sp d.rules).2.1 d.rules d.run) 0) by rw [HSD.out];unfold saveD;rw [save_bad hb,if_pos hb])
      rw [save_bad hb] at KR
      generalize runBad (sp d.rules).1 (sp d.rules).2.1 d.rules d.run = er at *
      have hg : (er == 0) = false := beq_eq_false_iff_ne.2 hb
      clear HSD hb
      go_enter Tryz.func21,Tryz.ntmps21
      go_wp2
      go_region_law (first
        | (go_simp;go_at_call 51;refine (KR.out).mono ?_;rintro e w7 ⟨hb7,a9,c9,rfl,ho7⟩;have HD8 := Lib.hid (HD0.out.drew.below hb7);have HB8 := Lib.hid ((But.refl D W0).drew.below hb7);have HA8 := Lib.hid (HA0.out.but HB8.out (by omega));have c0 := HA8.out.cell 0;have c1 := HA8.out.cell 1;have c2 := HA8.out.cell 2;have c3 := HA8.out.cell 3;have c4 := HA8.out.cell 4;have c5 := HA8.out.cell 5;have c6 := HA8.out.cell 6;have c7 := HA8.out.cell 7;have f0 := HA8.out.frozen 0;have f1 := HA8.out.frozen 1;have f2 := HA8.out.frozen 2;have f3 := HA8.out.frozen 3;have f4 := HA8.out.frozen 4;have f5 := HA8.out.frozen 5;have f6 := HA8.out.frozen 6;have f7 := HA8.out.frozen 7;simp only [List.getElem?_toArray,List.getElem?_cons_zero,List.getElem?_cons_succ] at c0 c1 c2 c3 c4 c5 c6 c7;clear hb7 ho7))
      all_goals
        go_wp2
        refine bodyPost_ret (v := .agg #[.int .i64 er,.int .i64 0,.int .i64 0,.slice none 0 0,.string ⟨#[]⟩,.slice none 0 0,.int .i64 0,.slice none 0 0]) (by simp [results,Tryz.results21,go_sem,c0,c1,c2,c3,c4,c5,c6,c7]) rfl (do_end (DoPost.plain HE.out (HD8.out.dk (fun q hq => hq)) HB8.out) rfl hs0 HB0.out hDw _ _ _ _ _ _ _ _)
  have HE := Lib.hid (show TP = (d,ansE 1 0) by rw [HTP.out];rw [if_neg k1,if_neg k2,if_neg k3,if_neg k5,if_neg k6,if_neg k8,if_neg k4,if_neg k7])
  have q1 : (x.kind == 1) = false := beq_eq_false_iff_ne.2 k1
  have q2 : (x.kind == 2) = false := beq_eq_false_iff_ne.2 k2
  have q3 : (x.kind == 3) = false := beq_eq_false_iff_ne.2 k3
  have q4 : (x.kind == 4) = false := beq_eq_false_iff_ne.2 k4
  have q5 : (x.kind == 5) = false := beq_eq_false_iff_ne.2 k5
  have q6 : (x.kind == 6) = false := beq_eq_false_iff_ne.2 k6
  have q7 : (x.kind == 7) = false := beq_eq_false_iff_ne.2 k7
  have q8 : (x.kind == 8) = false := beq_eq_false_iff_ne.2 k8
  clear HTP KTELL KRULE KASK k1 k2 k3 k4 k5 k6 k7 k8
  go_enter Tryz.func21,Tryz.ntmps21
  go_wp2
  refine bodyPost_ret (v := .agg #[.int .i64 1,.int .i64 0,.int .i64 0,.slice none 0 0,.string ⟨#[]⟩,.slice none 0 0,.int .i64 0,.slice none 0 0]) (by simp [results,Tryz.results21,go_sem,c0,c1,c2,c3,c4,c5,c6,c7]) rfl (DoPost.plain HE.out ((HD0.out.set8 (fun h => h.2 rfl) (by omega) _ _ _ _ _ _ _ _).dk (fun q hq => hq.1)) (but_set8 HB0.out (Nat.le_refl _) _ _ _ _ _ _ _ _))
end Go.Proofs.YtiiicochdidolaaGreat
