/-
  THE WALK OF round.Begin.
-/
import Derived.Test.YtiiicochdidolaaGreatTk24
namespace Go.Proofs.YtiiicochdidolaaGreat
open Go.RowKit
set_option maxRecDepth 100000 in
set_option maxHeartbeats 8000000 in
theorem beginCalls {S S2 : Nat → Prop} (p : List PRule) (v fv : Value) (st : List Int) (q : Int × Int) (l : List PFact) (w : World) (hS : StrataIs p st q) (h : RdRules S w v p) (hf : RdFacts S2 w fv l)
    (n1 : p.length ≤ 1048576) (n2 : ∀ r ∈ p,RuleSmall r) (n3 : ∀ r ∈ p,NameSmall r) (n4 : l.length ≤ 1048576) (n5 : ∀ x ∈ l,x.args.length ≤ 1048576) :
    Calls Tryz.prog 47 #[v,fv] w (RunPost (beginP st q.1 p l) w) := by
  obtain ⟨a,c,rfl,-,-,-⟩ := id h.form
  obtain ⟨fa,fc,rfl,-,-,-⟩ := id hf.form
  obtain ⟨W0,hW0⟩ : ∃ W0 : World,w.alloc (.cells #[.slice none 0 0,.slice none 0 0,.int .i64 0,.int .i64 0,.bool false] 28) = W0 := ⟨_,rfl⟩
  have hb0 : Below w.heap.size w W0 := by subst hW0;exact (Below.refl _ _).alloc (Nat.le_refl _) _
  have hk0 : Blk W0 w.heap.size 28 #[.slice none 0 0,.slice none 0 0,.int .i64 0,.int .i64 0,.bool false] := by subst hW0;exact Blk.new w _ _
  have HB0 := Lib.hid hb0
  have HK0 := Lib.hid hk0
  have H := Lib.hid h
  have HFA := Lib.hid hf
  have N2 := Lib.hid n2
  have N3 := Lib.hid n3
  have N5 := Lib.hid n5
  have HS := Lib.hid hS
  have KS := Lib.hid (strataTold hS (h.up hb0) n1 n2 n3)
  clear h hf n2 n3 n5 hb0 hk0 hS
  obtain ⟨q1,q2⟩ := q
  dsimp only at *
  by_cases hq : q1 = 0
  case neg =>
    have g1 : (q1 != 0) = true := by simpa using hq
    have HE := Lib.hid (show beginP st q1 p l = (zeroRun,q1) by unfold beginP;rw [if_pos hq])
    clear hq
    go_enter Tryz.func47,Tryz.ntmps47
    go_wp2_with (go_at_call 74;refine (KS.out).mono ?_;rintro e w1 ⟨hb1,a1,c1,rfl,hr1⟩;have HB1 := Lib.hid (HB0.out.trans (hb1.mono (Below.size HB0.out)));have HK1 := Lib.hid (HK0.out.below hb1 HK0.out.lt);clear hb1 hr1)
    have hlt1 := HK1.out.lt
    have hne1 : w1.heap.size ≠ w.heap.size := by omega
    have hne2 : w.heap.size ≠ w1.heap.size := by omega
    have HF2 := Lib.hid (HK1.out.alloc (.cells #[.int .i64 q1,.int .i64 q2] 49))
    have HB2 := Lib.hid (HB1.out.alloc HB1.out.size (.cells #[.int .i64 q1,.int .i64 q2] 49))
    have HN2 := Lib.hid (Blk.new w1 49 #[.int .i64 q1,.int .i64 q2])
    generalize w1.alloc (.cells #[.int .i64 q1,.int .i64 q2] 49) = w2 at *
    have k0 := HN2.out.cell 0;have k1 := HN2.out.cell 1
    have c0 := HF2.out.cell 0;have c1 := HF2.out.cell 1;have c2 := HF2.out.cell 2;have c3 := HF2.out.cell 3;have c4 := HF2.out.cell 4
    have f0 := HF2.out.frozen 0;have f1 := HF2.out.frozen 1;have f2 := HF2.out.frozen 2;have f3 := HF2.out.frozen 3;have f4 := HF2.out.frozen 4
    simp only [List.getElem?_toArray,List.getElem?_cons_zero,List.getElem?_cons_succ] at c0 c1 c2 c3 c4 k0 k1
    go_region_held3 (fun w' => w'.cell? ⟨w1.heap.size,0,none⟩ = some (.int .i64 q1)) (first | go_keep | (show _ = _;simp [hne1,hne2];assumption)) (fail)
    go_wp2
    refine bodyPost_ret (v := .tuple #[.agg #[.slice none 0 0,.slice none 0 0,.int .i64 0,.int .i64 0,.bool false],.int .i64 q1]) (by simp [results,Tryz.results47,go_sem,c0,c1,c2,c3,c4]) rfl (run_ret_err HE.out ?_)
    exact (((((HB2.out.drew).setCell (Nat.le_refl _) _).setCell (Nat.le_refl _) _).setCell (Nat.le_refl _) _).setCell (Nat.le_refl _) _).setCell (Nat.le_refl _) _
  obtain ⟨hsl,h16,h5,hz16,-,-⟩ := strata_bd HS.out hq
  have HZ := Lib.hid hz16
  have H5 := Lib.hid h5
  have HSL := Lib.hid hsl
  clear h5 hz16 hsl
  subst hq
  have KF := Lib.hid (fun W (hW : Below w.heap.size w W) => factsCalls p (.slice a p.length c) (.slice fa l.length fc) l W (H.out.up hW) (HFA.out.up hW) h16 H5.out N2.out N3.out n4 N5.out)
  by_cases hf : (factsBad p l).1 = 0
  case neg =>
    have g2 : ((factsBad p l).1 != 0) = true := by simpa using hf
    have HE := Lib.hid (show beginP st 0 p l = (zeroRun,(factsBad p l).1) by unfold beginP;rw [if_neg (by simp),if_pos hf])
    clear hf
    generalize factsBad p l = f at *
    obtain ⟨q1,q2'⟩ := f
    dsimp only at *
    go_enter Tryz.func47,Tryz.ntmps47
    go_wp2_with (first
      | (go_at_call 75;have hh := HB1.out;clear hh;refine (KF.out _ HB1.out).mono ?_;rintro e w2 ⟨rfl,hb2⟩;have HB2 := Lib.hid (HB1.out.trans (hb2.mono (Below.size HB1.out)));have HK2 := Lib.hid (HK1.out.below hb2 HK1.out.lt);clear hb2)
      | (go_at_call 74;refine (KS.out).mono ?_;rintro e w1 ⟨hb1,a1,c1,rfl,hr1⟩;have HB1 := Lib.hid ((HB0.out.trans (hb1.mono (Below.size HB0.out))).alloc (Nat.le_trans (Below.size HB0.out) hb1.size) (.cells #[.int .i64 0,.int .i64 q2] 49));have HK1 := Lib.hid ((HK0.out.below hb1 HK0.out.lt).alloc (.cells #[.int .i64 0,.int .i64 q2] 49));clear hb1 hr1))
    have hlt1 := HK2.out.lt
    have hne1 : w2.heap.size ≠ w.heap.size := by omega
    have hne2 : w.heap.size ≠ w2.heap.size := by omega
    have HF3 := Lib.hid (HK2.out.alloc (.cells #[.int .i64 q1,.int .i64 q2'] 49))
    have HB3 := Lib.hid (HB2.out.alloc HB2.out.size (.cells #[.int .i64 q1,.int .i64 q2'] 49))
    have HN3 := Lib.hid (Blk.new w2 49 #[.int .i64 q1,.int .i64 q2'])
    generalize w2.alloc (.cells #[.int .i64 q1,.int .i64 q2'] 49) = w3 at *
    have k0 := HN3.out.cell 0;have k1 := HN3.out.cell 1
    have c0 := HF3.out.cell 0;have c1 := HF3.out.cell 1;have c2 := HF3.out.cell 2;have c3 := HF3.out.cell 3;have c4 := HF3.out.cell 4
    have f0 := HF3.out.frozen 0;have f1 := HF3.out.frozen 1;have f2 := HF3.out.frozen 2;have f3 := HF3.out.frozen 3;have f4 := HF3.out.frozen 4
    simp only [List.getElem?_toArray,List.getElem?_cons_zero,List.getElem?_cons_succ] at c0 c1 c2 c3 c4 k0 k1
    go_region_held3 (fun w' => w'.cell? ⟨w2.heap.size,0,none⟩ = some (.int .i64 q1)) (first | go_keep | (show _ = _;simp [hne1,hne2];assumption)) (fail)
    go_wp2
    refine bodyPost_ret (v := .tuple #[.agg #[.slice none 0 0,.slice none 0 0,.int .i64 0,.int .i64 0,.bool false],.int .i64 q1]) (by simp [results,Tryz.results47,go_sem,c0,c1,c2,c3,c4]) rfl (run_ret_err HE.out ?_)
    exact (((((HB3.out.drew).setCell (Nat.le_refl _) _).setCell (Nat.le_refl _) _).setCell (Nat.le_refl _) _).setCell (Nat.le_refl _) _).setCell (Nat.le_refl _) _
  have HE := Lib.hid (show beginP st 0 p l = (⟨l,l,0,0,countP st == 0⟩,0) by unfold beginP;rw [if_neg (by simp),if_neg (by simpa using hf)])
  rw [hf] at KF
  generalize (factsBad p l).2 = f2 at *
  have KO := Lib.hid (fun W (hW : Below w.heap.size w W) => ownReads (HFA.out.up hW) n4 N5.out)
  have KC := Lib.hid (fun W sv (h1 : RdInts (fun _ => True) W sv st) => countCalls sv st W h1 (by rw [HSL.out];omega) (fun z hz => by have := HZ.out z hz;omega))
  clear hf
  obtain ⟨dn,hdn⟩ : ∃ dn,(countP st == 0) = dn := ⟨_,rfl⟩
  rw [hdn] at HE
  generalize countP st = cn at *
  go_enter Tryz.func47,Tryz.ntmps47
  go_wp2_with (first
    | (go_at_call 76;have hh := HR4.out;clear hh;refine (KC.out _ _ HI4.out).mono ?_;rintro e w5 ⟨rfl,rfl⟩;have c0 := HK4.out.cell 0;have c1 := HK4.out.cell 1;have c2 := HK4.out.cell 2;have c3 := HK4.out.cell 3;have c4 := HK4.out.cell 4;have z0 := HK4.out.frozen 0;have z1 := HK4.out.frozen 1;have z2 := HK4.out.frozen 2;have z3 := HK4.out.frozen 3;have z4 := HK4.out.frozen 4;simp only [List.getElem?_toArray,List.getElem?_cons_zero,List.getElem?_cons_succ] at c0 c1 c2 c3 c4)
    | (go_at_call 65;have hh := HR3.out;clear hh;refine (KO.out _ HB3.out).mono ?_;rintro e w4 ⟨⟨a4,c4',rfl,hr4⟩,hb4⟩;have HB4 := Lib.hid (HB3.out.trans (hb4.mono (Below.size HB3.out)));have HK4 := Lib.hid (HK3.out.below hb4 HK3.out.lt);have HR4 := Lib.hid hr4;have HQ4 := Lib.hid (HR3.out.agree RFact.steady (Below.agree hb4));have hs3 := HK3.out.lt;have hs2 := HK2.out.lt;have HI4 := Lib.hid (HI3.out.up hb4);clear hr4 hb4)
    | (go_at_call 65;have hh := HB2.out;clear hh;refine (KO.out _ HB2.out).mono ?_;rintro e w3 ⟨⟨a3,c3',rfl,hr3⟩,hb3⟩;have HB3 := Lib.hid (HB2.out.trans (hb3.mono (Below.size HB2.out)));have HK3 := Lib.hid (HK2.out.below hb3 HK2.out.lt);have HR3 := Lib.hid hr3;have HI3 := Lib.hid (HI2.out.up hb3);clear hr3 hb3)
    | (go_at_call 75;have hh := HB1.out;clear hh;refine (KF.out _ HB1.out).mono ?_;rintro e w2 ⟨rfl,hb2⟩;have HB2 := Lib.hid ((HB1.out.trans (hb2.mono (Below.size HB1.out))).alloc (Nat.le_trans (Below.size HB1.out) hb2.size) (.cells #[.int .i64 0,.int .i64 f2] 49));have HK2 := Lib.hid ((HK1.out.below hb2 HK1.out.lt).alloc (.cells #[.int .i64 0,.int .i64 f2] 49));have HI2 := Lib.hid (HI1.out.up (hb2.alloc hb2.size (.cells #[.int .i64 0,.int .i64 f2] 49)));clear hb2)
    | (go_at_call 74;refine (KS.out).mono ?_;rintro e w1 ⟨hb1,a1,c1,rfl,hr1⟩;have HB1 := Lib.hid ((HB0.out.trans (hb1.mono (Below.size HB0.out))).alloc (Nat.le_trans (Below.size HB0.out) hb1.size) (.cells #[.int .i64 0,.int .i64 q2] 49));have HK1 := Lib.hid ((HK0.out.below hb1 HK0.out.lt).alloc (.cells #[.int .i64 0,.int .i64 q2] 49));have HI1 := Lib.hid (hr1.up ((Below.refl _ _).alloc (Nat.le_refl _) (.cells #[.int .i64 0,.int .i64 q2] 49)));clear hb1 hr1))
  refine bodyPost_ret (v := .tuple #[.agg #[.slice a3 l.length c3',.slice a4 l.length c4',.int .i64 0,.int .i64 0,.bool dn],.int .i64 0]) (by simp [results,Tryz.results47,go_sem,c0,c1,c2,c3,c4]) rfl (run_ret_ok HE.out ?_ ?_ ?_)
  · exact ((((HB4.out.setCell (Nat.le_refl _) _).setCell (Nat.le_refl _) _).setCell (Nat.le_refl _) _).setCell (Nat.le_refl _) _).setCell (Nat.le_refl _) _
  · have hn : ¬ New (w2.alloc (.cells #[.int .i64 0,.int .i64 f2] 49)) w.heap.size := fun h => by have h' : (w2.alloc (.cells #[.int .i64 0,.int .i64 f2] 49)).heap.size ≤ w.heap.size := h;simp at h';omega
    exact RdFacts.newer (RdFacts.set_far (RdFacts.set_far (RdFacts.set_far (RdFacts.set_far (RdFacts.set_far HQ4.out hn _) hn _) hn _) hn _) hn _) (fun b hb => Nat.le_trans (Below.size HB2.out) hb)
  · have hn : ¬ New w3 w.heap.size := fun h => by have h' : w3.heap.size ≤ w.heap.size := h;omega
    exact RdFacts.newer (RdFacts.set_far (RdFacts.set_far (RdFacts.set_far (RdFacts.set_far (RdFacts.set_far HR4.out hn _) hn _) hn _) hn _) hn _) (fun b hb => Nat.le_trans (Below.size HB3.out) hb)
end Go.Proofs.YtiiicochdidolaaGreat
