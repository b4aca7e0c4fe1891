/-
  THE TEXTS NaiveR, NaiveW3, SynW5, Known, LitF, Alive5, NaiveM, one behind the other.
-/
import Derived.Test.YtiiicochdidolaaGreatTk3
import Derived.Test.YtiiicochdidolaaGreatTk6
import Derived.Test.YtiiicochdidolaaGreatTk11
import Derived.Test.YtiiicochdidolaaGreatTk12
import Derived.Test.YtiiicochdidolaaGreatTk13
import Derived.Test.YtiiicochdidolaaGreatTk14
import Derived.Defers
import Derived.Recover
namespace Go.Proofs.YtiiicochdidolaaGreat
structure Good (l : List PFact) : Prop where
  rise : Rising l
  len : l.length ≤ 200
  fine : ∀ f ∈ l,wrongF f = 0
theorem Good.set {l : List PFact} (h : Good l) : setF l = (0,0) := setF_of h.len h.rise h.fine
theorem good_of {l : List PFact} (h : (setF l).1 = 0) : Good l := ⟨(setF_set h).2.1,(setF_set h).1,(setF_set h).2.2⟩
def ReachF (n : Int) (l : List PFact) (ps : List (PRule × Int)) (out : List PFact) (x : PFact) : Prop := x ∈ out ∨ ∃ r s,(r,s) ∈ ps ∧ s = n ∧ x ∈ (headsP r l).1
theorem once_cases {n : Int} {l : List PFact} (hl : (setF l).1 = 0) : ∀ {ps : List (PRule × Int)} {out : List PFact},(∀ r s,(r,s) ∈ ps → bodyBad r.body = 0) →
    (onceP n l ps out).2 = 0 ∨ onceP n l ps out = ([],4) ∧ (∃ r s,(r,s) ∈ ps ∧ s = n ∧ (headsP r l).2 ≠ 0) ∨
      onceP n l ps out = ([],5) ∧ ∀ M,Rising M → (∀ x,ReachF n l ps out x → x ∈ M) → 200 < M.length
  | [],out,_ => .inl rfl
  | (r,s) :: ps,out,hb => by
    have hb' : ∀ r s,(r,s) ∈ ps → bodyBad r.body = 0 := fun r s h => hb r s (List.mem_cons_of_mem _ h)
    rw [onceP]
    by_cases hs : s = n
    case neg =>
      rw [if_pos hs]
      rcases once_cases hl (ps := ps) (out := out) hb' with h | ⟨h1,r',s',h2,h3,h4⟩ | ⟨h1,h2⟩
      · exact .inl h
      · exact .inr (.inl ⟨h1,r',s',List.mem_cons_of_mem _ h2,h3,h4⟩)
      · refine .inr (.inr ⟨h1,fun M hM hx => h2 M hM fun x hr => hx x ?_⟩)
        rcases hr with hr | ⟨r',s',g1,g2,g3⟩
        · exact .inl hr
        · exact .inr ⟨r',s',List.mem_cons_of_mem _ g1,g2,g3⟩
    rw [if_neg (by simpa using hs)]
    by_cases he : (headsP r l).2 = 0
    case neg =>
      rw [if_pos he]
      exact .inr (.inl ⟨by rw [heads_much (hb r s (by simp)) hl he],r,s,by simp,hs,he⟩)
    rw [if_neg (by simpa using he)]
    by_cases hm : 200 < (joinF out (headsP r l).1).length
    · rw [if_pos hm]
      refine .inr (.inr ⟨rfl,fun M hM hx => ?_⟩)
      have : (joinF out (headsP r l).1).length ≤ M.length := rising_sub_le (ofF_rising _) fun x hxj => hx x ?_
      · omega
      · rcases (mem_joinF _ _ x).1 hxj with h | h
        · exact .inl h
        · exact .inr ⟨r,s,by simp,hs,h⟩
    · rw [if_neg hm]
      rcases once_cases hl (ps := ps) (out := joinF out (headsP r l).1) hb' with h | ⟨h1,r',s',h2,h3,h4⟩ | ⟨h1,h2⟩
      · exact .inl h
      · exact .inr (.inl ⟨h1,r',s',List.mem_cons_of_mem _ h2,h3,h4⟩)
      · refine .inr (.inr ⟨h1,fun M hM hx => h2 M hM fun x hr => hx x ?_⟩)
        rcases hr with hr | ⟨r',s',g1,g2,g3⟩
        · rcases (mem_joinF _ _ x).1 hr with h | h
          · exact .inl h
          · exact .inr ⟨r,s,by simp,hs,h⟩
        · exact .inr ⟨r',s',List.mem_cons_of_mem _ g1,g2,g3⟩
theorem once_good {n : Int} {l : List PFact} (hl : Good l) {ps : List (PRule × Int)} (hR : ∀ r s,(r,s) ∈ ps → ruleBad r = 0) {out : List PFact} (ho : Good out) (h : (onceP n l ps out).2 = 0) : Good (onceP n l ps out).1 := by
  have hr := once_round h ho.rise ho.len
  refine ⟨hr.rise,hr.len,fun x hx => ?_⟩
  rcases (hr.mem x).1 hx with h1 | ⟨r,s,h1,h2,h3⟩
  · exact ho.fine x h1
  · exact derives_good (hR r s h1) hl.fine ((mem_heads (hr.ok r s h1 h2) x).1 h3)
end Go.Proofs.YtiiicochdidolaaGreat
namespace Go.Proofs.YtiiicochdidolaaGreat
open Go.RowKit Go.Maps
theorem RdInts.up {S : Nat → Prop} {w w' : World} {v : Value} {l : List Int} (h : RdInts S w v l) (hb : Below w.heap.size w w') : RdInts (fun _ => True) w' v l := (h.more RInt.steady (fun _ _ _ => trivial)).agree RInt.steady (Below.agree hb)
theorem heads_len (r : PRule) (l : List PFact) : (headsP r l).1.length ≤ 20000 := by
  unfold headsP
  split
  · exact Nat.zero_le _
  · refine Nat.le_trans (ofF_length _) (Nat.le_trans (List.length_filterMap_le _ _) (all_short r.body l).1)
theorem heads_args {r : PRule} {l : List PFact} {x : PFact} (hx : x ∈ (headsP r l).1) : x.args.length = r.head.terms.length := by
  unfold headsP at hx
  split at hx
  · simp at hx
  · obtain ⟨b,-,hb⟩ := List.mem_filterMap.1 ((mem_ofF _ _).1 hx)
    exact fill_args hb
theorem once_skip {n s : Int} {l out : List PFact} {r : PRule} {ps : List (PRule × Int)} (h : s ≠ n) : onceP n l ((r,s) :: ps) out = onceP n l ps out := by conv => lhs;unfold onceP;rw [if_pos h]
theorem once_err {n s : Int} {l out : List PFact} {r : PRule} {ps : List (PRule × Int)} (h : s = n) (he : (headsP r l).2 ≠ 0) : onceP n l ((r,s) :: ps) out = ([],(headsP r l).2) := by
  unfold onceP;rw [if_neg (by simpa using h),if_pos he]
theorem once_many {n s : Int} {l out : List PFact} {r : PRule} {ps : List (PRule × Int)} (h : s = n) (he : (headsP r l).2 = 0) (hm : 200 < (joinF out (headsP r l).1).length) : onceP n l ((r,s) :: ps) out = ([],5) := by
  unfold onceP;rw [if_neg (by simpa using h),if_neg (by simpa using he),if_pos hm]
theorem once_next {n s : Int} {l out : List PFact} {r : PRule} {ps : List (PRule × Int)} (h : s = n) (he : (headsP r l).2 = 0) (hm : ¬ 200 < (joinF out (headsP r l).1).length) : onceP n l ((r,s) :: ps) out = onceP n l ps (joinF out (headsP r l).1) := by
  conv => lhs;unfold onceP
  rw [if_neg (by simpa using h),if_neg (by simpa using he),if_neg hm]
theorem zip_at {α β : Type} {a : List α} {b : List β} {k : Nat} {x : α} {y : β} (h1 : a[k]? = some x) (h2 : b[k]? = some y) : (a.zip b)[k]? = some (x,y) := by
  rw [List.getElem?_zip_eq_some];exact ⟨h1,h2⟩
set_option maxRecDepth 100000 in
set_option maxHeartbeats 8000000 in
theorem onceCalls {S S2 S3 : Nat → Prop} (p : List PRule) (v sv fv : Value) (st : List Int) (n : Int) (l : List PFact) (w : World) (h : RdRules S w v p) (hst : RdInts S2 w sv st) (hf : RdFacts S3 w fv l) (hlen : st.length = p.length)
    (n1 : p.length ≤ 1048576) (n2 : ∀ r ∈ p,RuleSmall r) (n4 : l.length ≤ 1048576) (n5 : ∀ x ∈ l,x.args.length ≤ 1048576) :
    Calls Tryz.prog 77 #[v,sv,.int .i64 n,fv] w (FactsPost (onceP n l (p.zip st) l) w) := by
  obtain ⟨a,c,rfl,-,-,-⟩ := id h.form
  obtain ⟨sa,sc,rfl,-,-,-⟩ := id hst.form
  obtain ⟨fa,fc,rfl,-,-,-⟩ := id hf.form
  have KO := Lib.hid (ownCalls (.slice fa l.length fc) l w hf (by omega) (fun x hx => by have := n5 x hx;omega))
  have H := Lib.hid h
  have HST := Lib.hid hst
  have HFA := Lib.hid hf
  have N2 := Lib.hid n2
  have N5 := Lib.hid n5
  clear h hst hf n2 n5
  go_enter Tryz.func77,Tryz.ntmps77
  go_wp2_with (go_at_call 65;refine (KO.out).mono ?_;rintro e w1 ⟨⟨v1,rfl,ho1⟩,hb1⟩;have HO1 := Lib.hid ho1;have HB1 := Lib.hid hb1;clear ho1 hb1)
  clear KO
  go_loopw [19,10] (fun i v wr => ∃ (k : Nat) (o : List PFact),k ≤ p.length ∧ i = .int .i64 k ∧ o.length ≤ 1048576 ∧ Hid (∀ x ∈ o,x.args.length ≤ 1048576) ∧ Hid (Owned 2 RFact w.heap.size 38 (New w) wr v o) ∧ Hid (Below w.heap.size w wr) ∧ Hid (onceP n l (p.zip st) l = onceP n l ((p.zip st).drop k) o)) (fun i _ _ => p.length - (intOf i).toNat)
  case atStart => exact ⟨0,l,Nat.zero_le _,rfl,n4,N5,HO1,HB1,Lib.hid rfl⟩
  case round =>
    clear HO1 HB1
    obtain ⟨k,o,hk,rfl,hol,HOA,HO,HB,HE⟩ := hrel
    obtain ⟨va,vc,efm,-,-,-⟩ := (HO.out.read RFact.steady).form
    subst efm
    by_cases hlt : k < p.length
    · obtain ⟨x,hx⟩ : ∃ x,p[k]? = some x := ⟨_,List.getElem?_eq_getElem hlt⟩
      obtain ⟨s,hsx⟩ : ∃ s,st[k]? = some s := ⟨_,List.getElem?_eq_getElem (by omega)⟩
      have hmem := List.mem_of_getElem? hx
      obtain ⟨b1,o1,tv,bv,rfl,-,hb1,d0,d1,d2,d3,htv,hbv⟩ := RdRules.at H.out hx
      obtain ⟨ta,tc,rfl,-,-,-⟩ := id htv.form
      obtain ⟨ba,bc,rfl,-,-,-⟩ := id hbv.form
      have HRA := Lib.hid (show RuleAt S w b1 (o1 + k * 4) x (.slice ta x.head.terms.length tc) (.slice ba x.body.length bc) from ⟨hb1,d0,d1,d2,d3,htv,hbv⟩)
      obtain ⟨b2,o2,rfl,-,hb2,e0⟩ := RdInts.at HST.out hsx
      have f0 := (cell_below HB.out hb2 _).trans e0
      have HS := Lib.hid (N2.out x hmem)
      clear d0 d1 d2 d3 e0
      obtain ⟨-,d0,d1,d2,d3,-,-⟩ := HRA.out.up HB.out
      have hsz := HB.out.size
      have hbl2 : b2 < wr.heap.size := Nat.lt_of_lt_of_le hb2 hsz
      have hbx : Below wr.heap.size wr (wr.alloc (.cells #[.bool x.head.neg,.string x.head.name,.slice ta x.head.terms.length tc,.slice ba x.body.length bc] 62)) := (Below.refl _ _).alloc (Nat.le_refl _) _
      have HB1 := Lib.hid (HB.out.trans (hbx.mono hsz))
      have HO1 := Lib.hid (HO.out.below RFact.steady hbx)
      have HE1 := Lib.hid (show onceP n l (p.zip st) l = onceP n l ((x,s) :: (p.zip st).drop (k + 1)) o by rw [HE.out,at_drop (zip_at hx hsx)])
      have i3 : (k : Int) < (st.length : Int) := by omega
      clear hx hsx hmem htv hbv hbx HE
      by_cases hs : s = n
      case neg =>
        have g1 : (s != n) = true := by simpa using hs
        have HE2 := Lib.hid (HE1.out.trans (once_skip hs))
        clear hs HE1
        go_wp2
        go_roundw
        case rel => exact ⟨k + 1,o,by omega,by go_num,hol,HOA,HO1,HB1,HE2⟩
        case measure => simp [intOf];omega
      have g1 : (s != n) = false := by simpa using hs
      have KH := Lib.hid (headsCalls x (.slice ta x.head.terms.length tc) (.slice ba x.body.length bc) (.slice fa l.length fc) l (wr.alloc (.cells #[.bool x.head.neg,.string x.head.name,.slice ta x.head.terms.length tc,.slice ba x.body.length bc] 62)) (HRA.out.up HB1.out).t (HRA.out.up HB1.out).b (HFA.out.up HB1.out) HS.out n4 N5.out)
      have HHL := Lib.hid (heads_len x l)
      have HHA := Lib.hid (show ∀ y ∈ (headsP x l).1,y.args.length ≤ 1048576 from fun y hy => by rw [heads_args hy];exact HS.out.h1)
      have H1 := Lib.hid (fun (he : (headsP x l).2 ≠ 0) => HE1.out.trans (once_err hs he))
      have H2 := Lib.hid (fun (he : (headsP x l).2 = 0) hm => HE1.out.trans (once_many hs he hm))
      have H3 := Lib.hid (fun (he : (headsP x l).2 = 0) hm => HE1.out.trans (once_next hs he hm))
      clear hs HE1
      generalize headsP x l = r at *
      obtain ⟨hl,q⟩ := r
      dsimp only at *
      by_cases hq : q = 0
      case neg =>
        have g2 : (q != 0) = true := by simpa using hq
        have HE2 := Lib.hid (H1.out hq)
        clear hq H1 H2 H3
        go_wp2_with (go_at_call 13;refine (KH.out).mono ?_;rintro e w3 ⟨hb3,v3,rfl,ho3⟩;obtain ⟨a3,c3,rfl,-,-,-⟩ := id (ho3.read RFact.steady).form;have HB3 := Lib.hid (HB1.out.trans (hb3.mono (Below.size HB1.out)));clear hb3 ho3)
        go_ret2
        exact facts_err HE2.out HB3.out
      subst hq
      have KJ := Lib.hid (fun W va vb (h1 : RdFacts (fun _ => True) W va o) (h2 : RdFacts (fun _ => True) W vb hl) => joinCalls va vb o hl W h1 h2 (by have := HHL.out;omega) (fun x hx => by have := HOA.out x hx;omega) (fun x hx => by have := HHA.out x hx;omega))
      have HJA := Lib.hid (show ∀ y ∈ joinF o hl,y.args.length ≤ 1048576 from fun y hy => by
        rcases (mem_joinF _ _ y).1 hy with h | h
        · exact HOA.out y h
        · exact HHA.out y h)
      have H4 := Lib.hid (H2.out rfl)
      have H5 := Lib.hid (H3.out rfl)
      clear H1 H2 H3
      generalize joinF o hl = j at *
      by_cases hm : 200 < j.length
      · have HE2 := Lib.hid (H4.out hm)
        have i5 : (200 : Int) < (j.length : Int) := by omega
        clear hm H4 H5
        go_wp2_with (first
          | (go_at_call 13;refine (KH.out).mono ?_;rintro e w3 ⟨hb3,v3,rfl,ho3⟩;obtain ⟨a3,c3,rfl,-,-,-⟩ := id (ho3.read RFact.steady).form;have HB3 := Lib.hid (HB1.out.trans (hb3.mono (Below.size HB1.out)));have HR3 := Lib.hid ((ho3.read RFact.steady).more RFact.steady (S' := fun _ => True) (fun _ _ _ => trivial));have HO3 := Lib.hid (HO1.out.below RFact.steady hb3);clear hb3 ho3)
          | (go_at_call 80;refine (KJ.out _ _ _ ((HO3.out.read RFact.steady).more RFact.steady (fun _ _ _ => trivial)) HR3.out).mono ?_;rintro e w4 ⟨⟨v4,rfl,ho4⟩,hb4⟩;obtain ⟨a4,c4,rfl,-,-,-⟩ := id (ho4.read RFact.steady).form;have HB4 := Lib.hid (HB3.out.trans (hb4.mono (Below.size HB3.out)));clear hb4 ho4))
        go_ret2
        exact facts_err HE2.out HB4.out
      · have HE2 := Lib.hid (H5.out hm)
        have i5 : ¬ (200 : Int) < (j.length : Int) := by omega
        have hjl : j.length ≤ 1048576 := by omega
        clear hm H4 H5
        go_wp2_with (first
          | (go_at_call 13;refine (KH.out).mono ?_;rintro e w3 ⟨hb3,v3,rfl,ho3⟩;obtain ⟨a3,c3,rfl,-,-,-⟩ := id (ho3.read RFact.steady).form;have HB3 := Lib.hid (HB1.out.trans (hb3.mono (Below.size HB1.out)));have HR3 := Lib.hid ((ho3.read RFact.steady).more RFact.steady (S' := fun _ => True) (fun _ _ _ => trivial));have HO3 := Lib.hid (HO1.out.below RFact.steady hb3);clear hb3 ho3)
          | (go_at_call 80;refine (KJ.out _ _ _ ((HO3.out.read RFact.steady).more RFact.steady (fun _ _ _ => trivial)) HR3.out).mono ?_;rintro e w4 ⟨⟨v4,rfl,ho4⟩,hb4⟩;obtain ⟨a4,c4,rfl,-,-,-⟩ := id (ho4.read RFact.steady).form;have HB4 := Lib.hid (HB3.out.trans (hb4.mono (Below.size HB3.out)));have HO4 := Lib.hid ((ho4.lower (Below.size HB3.out)).moreS RFact.steady (S' := New w) fun b hb _ => Nat.le_trans (Below.size HB3.out) hb);clear hb4 ho4))
        go_roundw
        case rel => exact ⟨k + 1,j,by omega,by go_num,hjl,HJA,HO4,HB4,HE2⟩
        case measure => simp [intOf];omega
    · have HE2 := Lib.hid (show onceP n l (p.zip st) l = (o,0) by rw [HE.out,List.drop_eq_nil_of_le (by rw [List.length_zip];omega)];rfl)
      go_wp2
      go_ret2
      exact facts_ok HE2.out HB.out HO.out
theorem below_drewN {B : Nat} {w w' : World} (h : Below B w w') (n : Nat) : Below B w (w'.drewN n) := h.trans ⟨rfl,rfl,rfl,Nat.le_refl _,fun _ _ => rfl⟩
theorem exists_strata (p : List PRule) : ∃ st q,StrataIs p st q := by
  by_cases h : (wrongP p).1 = 0
  · by_cases hs : ∃ N,Sol p N
    · obtain ⟨N,hN⟩ := hs
      obtain ⟨L,hL⟩ := exists_least hN
      exact ⟨_,_,.inr ⟨h,.inl ⟨L,hL,rfl,rfl⟩⟩⟩
    · exact ⟨_,_,.inr ⟨h,.inr ⟨fun N hN => hs ⟨N,hN⟩,rfl,rfl⟩⟩⟩
  · exact ⟨_,_,.inl ⟨h,rfl,rfl⟩⟩
theorem strata_bd {p : List PRule} {st : List Int} {q : Int × Int} (hs : StrataIs p st q) (h : q.1 = 0) : st.length = p.length ∧ p.length ≤ 16 ∧ (∀ r ∈ p,r.body.length ≤ 5) ∧ (∀ z ∈ st,0 ≤ z ∧ z ≤ 16) ∧ 0 ≤ countP st ∧ countP st ≤ 17 := by
  obtain ⟨hR,hW,L,hL,rfl⟩ := strata_zero hs h
  have h16 := (wrongP_iff.1 hW).1
  have hz : ∀ z ∈ p.map (fun r => (L r.head.name : Int)),0 ≤ z ∧ z ≤ 16 := fun z hz => by
    obtain ⟨r,hr,rfl⟩ := List.mem_map.1 hz
    have := hL.bound (D := headsOf p) (fun x hx => hx) (s := r.head.name) (List.mem_map.2 ⟨r,hr,rfl⟩)
    have h2 : (headsOf p).length = p.length := by simp [headsOf]
    omega
  refine ⟨by simp,h16,fun r hr => ruleBad_body (hR r hr),hz,?_⟩
  rcases count_is (p.map fun r => (L r.head.name : Int)) with ⟨-,h1⟩ | ⟨x,hx,h1⟩
  · omega
  · have := hz x hx;omega
def lenV : Value → Nat
  | .slice _ n _ => n
  | _ => 0
theorem naive_err1 {st : List Int} {q : Int} {p : List PRule} {l : List PFact} (h : q ≠ 0) : naiveP st q p l = ([],q) := by unfold naiveP;rw [if_pos h]
theorem naive_err2 {st : List Int} {q : Int} {p : List PRule} {l : List PFact} (h : q = 0) (hf : (factsBad p l).1 ≠ 0) : naiveP st q p l = ([],(factsBad p l).1) := by unfold naiveP;rw [if_neg (by simpa using h),if_pos hf]
theorem naive_run {st : List Int} {q : Int} {p : List PRule} {l : List PFact} (h : q = 0) (hf : (factsBad p l).1 = 0) : naiveP st q p l = runP (p.zip st) (countP st).toNat 0 l := by unfold naiveP;rw [if_neg (by simpa using h),if_neg (by simpa using hf)]
theorem fix_err {ps : List (PRule × Int)} {n : Int} {k : Nat} {o : List PFact} (h : (onceP n o ps o).2 ≠ 0) : fixP ps n (k + 1) o = ([],(onceP n o ps o).2) := by rw [fixP,if_pos h]
theorem fix_done {ps : List (PRule × Int)} {n : Int} {k : Nat} {o : List PFact} (h : (onceP n o ps o).2 = 0) (hl : (onceP n o ps o).1.length = o.length) : fixP ps n (k + 1) o = (o,0) := by rw [fixP,if_neg (by simpa using h),if_pos hl]
theorem fix_next {ps : List (PRule × Int)} {n : Int} {k : Nat} {o : List PFact} (h : (onceP n o ps o).2 = 0) (hl : ¬ (onceP n o ps o).1.length = o.length) : fixP ps n (k + 1) o = fixP ps n k (onceP n o ps o).1 := by rw [fixP,if_neg (by simpa using h),if_neg hl]
theorem run_err {ps : List (PRule × Int)} {i : Int} {k : Nat} {o : List PFact} (h : (fixP ps i 201 o).2 ≠ 0) : runP ps (k + 1) i o = ([],(fixP ps i 201 o).2) := by rw [runP,if_pos h]
theorem run_next {ps : List (PRule × Int)} {i : Int} {k : Nat} {o : List PFact} (h : (fixP ps i 201 o).2 = 0) : runP ps (k + 1) i o = runP ps k (i + 1) (fixP ps i 201 o).1 := by rw [runP,if_neg (by simpa using h)]
theorem once_args {n : Int} {l : List PFact} {m : Nat} : ∀ {ps : List (PRule × Int)} {o : List PFact},(∀ r s,(r,s) ∈ ps → r.head.terms.length ≤ m) → (∀ x ∈ o,x.args.length ≤ m) → ∀ x ∈ (onceP n l ps o).1,x.args.length ≤ m
  | [],o,_,ho,x,hx => ho x hx
  | (r,s) :: ps,o,hp,ho,x,hx => by
    have hp' : ∀ r s,(r,s) ∈ ps → r.head.terms.length ≤ m := fun r s h => hp r s (List.mem_cons_of_mem _ h)
    rw [onceP] at hx
    split at hx
    · exact once_args hp' ho x hx
    · split at hx
      · simp at hx
      · split at hx
        · simp at hx
        · refine once_args hp' (fun y hy => ?_) x hx
          rcases (mem_joinF _ _ y).1 hy with h | h
          · exact ho y h
          · rw [heads_args h];exact hp r s (by simp)
set_option maxRecDepth 100000 in
set_option maxHeartbeats 8000000 in
theorem naiveCalls {S S3 : Nat → Prop} (p : List PRule) (v fv : Value) (st : List Int) (q : Int × Int) (l : List PFact) (w : World) (hS : StrataIs p st q) (h : RdRules S w v p) (hf : RdFacts S3 w fv l)
    (n1 : p.length ≤ 1048576) (n2 : ∀ r ∈ p,RuleSmall r) (n3 : ∀ r ∈ p,NameSmall r) (n4 : l.length ≤ 1048576) (n5 : ∀ x ∈ l,x.args.length ≤ 1048576) :
    Calls Tryz.prog 38 #[v,fv] w (FactsPost (naiveP st q.1 p l) w) := by
  obtain ⟨a,c,rfl,-,-,-⟩ := id h.form
  obtain ⟨fa,fc,rfl,-,-,-⟩ := id hf.form
  have KS := Lib.hid ((strataCalls p (.slice a p.length c) w h n1 n2 n3).mono (R' := fun e w' => Below w.heap.size w w' ∧ ∃ v',e = .returned (.tuple #[v',.agg #[.int .i64 q.1,.int .i64 q.2]]) ∧ RdInts (New w) w' v' st) fun e w' ⟨hb,v',l',q',he,hr,hs⟩ => by
    obtain ⟨rfl,rfl⟩ := hs.unique hS
    exact ⟨hb,v',he,hr⟩)
  have HS := Lib.hid hS
  have H := Lib.hid h
  have HFA := Lib.hid hf
  have N2 := Lib.hid n2
  have N3 := Lib.hid n3
  have N5 := Lib.hid n5
  clear h hf n2 n3 n5 hS
  obtain ⟨q1,q2⟩ := q
  dsimp only at *
  by_cases hq : q1 = 0
  case neg =>
    have g1 : (q1 != 0) = true := by simpa using hq
    have HE := Lib.hid (naive_err1 (st := st) (p := p) (l := l) hq)
    clear hq
    go_enter Tryz.func38,Tryz.ntmps38
    go_wp2_with (go_at_call 74;refine (KS.out).mono ?_;rintro e w1 ⟨hb1,v1,rfl,hr1⟩;obtain ⟨a1,c1,rfl,-,-,-⟩ := id hr1.form;have HB1 := Lib.hid (hb1.alloc hb1.size (.cells #[.int .i64 q1,.int .i64 q2] 49));clear hb1 hr1)
    go_quiet (fail)
    go_wp2
    go_ret2
    exact facts_err HE.out (below_drewN HB1.out _)
  have hbd := strata_bd HS.out hq
  obtain ⟨hsl,h16,h5,hz16,hc0,hc17⟩ := hbd
  have HZ := Lib.hid hz16
  have HSL := Lib.hid hsl
  clear hsl
  have H5 := Lib.hid h5
  have HSQ := Lib.hid hq
  clear h5 hz16
  subst hq
  have KF := Lib.hid (fun W (hW : Below w.heap.size w W) => factsCalls p (.slice a p.length c) (.slice fa l.length fc) l W (H.out.up hW) (HFA.out.up hW) h16 H5.out N2.out N3.out n4 N5.out)
  by_cases hf : (factsBad p l).1 = 0
  case neg =>
    have g2 : ((factsBad p l).1 != 0) = true := by simpa using hf
    have HE := Lib.hid (naive_err2 (st := st) (p := p) (l := l) (q := 0) rfl hf)
    clear hf HZ H5 HSQ
    generalize factsBad p l = f at *
    obtain ⟨f1,f2⟩ := f
    dsimp only at *
    go_enter Tryz.func38,Tryz.ntmps38
    go_wp2_with (first
      | (go_at_call 75;refine (KF.out _ HB1.out).mono ?_;rintro e w2 ⟨rfl,hb2⟩;have HB2 := Lib.hid ((HB1.out.trans (hb2.mono (Below.size HB1.out))).alloc (Nat.le_trans (Below.size HB1.out) hb2.size) (.cells #[.int .i64 f1,.int .i64 f2] 49));clear hb2)
      | (go_at_call 74;refine (KS.out).mono ?_;rintro e w1 ⟨hb1,v1,rfl,hr1⟩;obtain ⟨a1,c1,rfl,-,-,-⟩ := id hr1.form;have HB1 := Lib.hid (hb1.alloc hb1.size (.cells #[.int .i64 0,.int .i64 q2] 49));clear hb1 hr1))
    go_quiet (fail)
    go_wp2
    go_ret2
    exact facts_err HE.out (below_drewN HB2.out _)
  have HSF := Lib.hid (good_of (factsBad_set hf))
  have HE := Lib.hid (naive_run (st := st) (p := p) (l := l) (q := 0) rfl hf)
  have hll := HSF.out.len
  rw [hf] at KF
  generalize (factsBad p l).2 = f2 at *
  have KO := Lib.hid (fun W (hW : Below w.heap.size w W) => ownCalls (.slice fa l.length fc) l W (HFA.out.up hW) (by omega) (fun x hx => by have := N5.out x hx;omega))
  clear hf HSQ
  go_enter Tryz.func38,Tryz.ntmps38
  go_wp2_with (first
    | (go_at_call 76;have hh := HR3.out;clear hh;refine (countCalls _ st _ HR3.out (by rw [HSL.out];omega) (fun z hz => by have := HZ.out z hz;omega)).mono ?_;rintro e w4 ⟨rfl,rfl⟩)
    | (go_at_call 65;have hh := HB2.out;clear hh;refine (KO.out _ HB2.out).mono ?_;rintro e w3 ⟨⟨v3,rfl,ho3⟩,hb3⟩;have HB3 := Lib.hid (HB2.out.trans (hb3.mono (Below.size HB2.out)));have HO3 := Lib.hid ((ho3.lower (Below.size HB2.out)).moreS RFact.steady (S' := New w) fun b hb _ => Nat.le_trans (Below.size HB2.out) hb);have HR3 := Lib.hid (HR2.out.up hb3);clear hb3 ho3)
    | (go_at_call 75;have hh := HB1.out;clear hh;refine (KF.out _ HB1.out).mono ?_;rintro e w2 ⟨rfl,hb2⟩;have HB2 := Lib.hid ((HB1.out.trans (hb2.mono (Below.size HB1.out))).alloc (Nat.le_trans (Below.size HB1.out) hb2.size) (.cells #[.int .i64 0,.int .i64 f2] 49));have HR2 := Lib.hid (HR1.out.up (hb2.alloc hb2.size (.cells #[.int .i64 0,.int .i64 f2] 49)));clear hb2)
    | (go_at_call 74;refine (KS.out).mono ?_;rintro e w1 ⟨hb1,v1,rfl,hr1⟩;obtain ⟨a1,c1,rfl,-,-,-⟩ := id hr1.form;have HB1 := Lib.hid (hb1.alloc hb1.size (.cells #[.int .i64 0,.int .i64 q2] 49));have HR1 := Lib.hid (hr1.up ((Below.refl _ _).alloc (Nat.le_refl _) (.cells #[.int .i64 0,.int .i64 q2] 49)));clear hb1 hr1))
  obtain ⟨cn,hcn⟩ : ∃ cn : Nat,countP st = cn := ⟨(countP st).toNat,by omega⟩
  rw [hcn] at HE hc17 ⊢
  have htn : ((cn : Int)).toNat = cn := rfl
  rw [htn] at HE
  clear htn hcn hc0 KF KO KS HB1 HB2 HR1 HR2
  have HRB := Lib.hid (show ∀ r s,(r,s) ∈ p.zip st → ruleBad r = 0 from fun r s hm => (strata_zero HS.out rfl).1 r (List.of_mem_zip hm).1)
  have HTA := Lib.hid (show ∀ r s,(r,s) ∈ p.zip st → r.head.terms.length ≤ 1048576 from fun r s hm => (N2.out r (List.of_mem_zip hm).1).h1)
  obtain ⟨wo,hwo⟩ : ∃ wo : World,wo = w4 := ⟨_,rfl⟩
  subst hwo
  have HBO := Lib.hid (Below.refl wo.heap.size wo)
  have HE0 := Lib.hid (show naiveP st 0 p l = runP (p.zip st) (cn - 0) ((0 : Nat) : Int) l from HE.out)
  go_loopw [35,9] (fun i v wr => ∃ (j : Nat) (o : List PFact),j ≤ cn ∧ i = .int .i64 j ∧ Hid (Good o) ∧ Hid (∀ x ∈ o,x.args.length ≤ 1048576) ∧ Hid (Owned 2 RFact w.heap.size 38 (New w) wr v o) ∧ Hid (Below wo.heap.size wo wr) ∧ Hid (naiveP st 0 p l = runP (p.zip st) (cn - j) (j : Int) o)) (fun i _ _ => cn - (intOf i).toNat)
  case atStart => exact ⟨0,l,Nat.zero_le _,rfl,HSF,N5,HO3,HBO,HE0⟩
  case round =>
    clear HBO HO3 HE HE0 HSF hll
    obtain ⟨j,o,hj,rfl,HG,HA,HO,HB,HE⟩ := hrel
    obtain ⟨va,vc,efm,-,-,-⟩ := (HO.out.read RFact.steady).form
    subst efm
    by_cases hlt : j < cn
    · obtain ⟨m,hm⟩ : ∃ m,cn - j = m + 1 := ⟨cn - j - 1,by omega⟩
      rw [hm] at HE
      have HM := Lib.hid (show cn - (j + 1) = m by omega)
      have hl0 : 200 < 201 + o.length := by omega
      clear hm
      go_wp2
      obtain ⟨o0,ho0⟩ : ∃ o0,o0 = o := ⟨_,rfl⟩
      subst ho0
      have HG0 := HG
      go_loopw [9] (fun v wr => ∃ (k : Nat) (o : List PFact),200 < k + o.length ∧ Hid (Good o) ∧ Hid (∀ x ∈ o,x.args.length ≤ 1048576) ∧ Hid (Owned 2 RFact w.heap.size 38 (New w) wr v o) ∧ Hid (Below wo.heap.size wo wr) ∧ Hid (fixP (p.zip st) (j : Int) 201 o0 = fixP (p.zip st) (j : Int) k o)) (fun v _ => 201 - lenV v)
      case atStart => exact ⟨201,o0,hl0,HG,HA,HO,HB,Lib.hid rfl⟩
      case round =>
        clear HG HA HO HB hl0
        obtain ⟨k,o,hk,HG,HA,HO,HB,HX⟩ := hrel
        obtain ⟨va,vc,efm,-,-,-⟩ := (HO.out.read RFact.steady).form
        subst efm
        have hol := HG.out.len
        obtain ⟨k',rfl⟩ : ∃ k',k = k' + 1 := ⟨k - 1,by omega⟩
        have HBW := Lib.hid (HB3.out.trans (HB.out.mono (Below.size HB3.out)))
        have KC := Lib.hid (onceCalls p (.slice a p.length c) (.slice a1 st.length c1) (.slice va o.length vc) st (j : Int) o wr (H.out.up HBW.out) (HR3.out.up HB.out) (HO.out.read RFact.steady) HSL.out n1 N2.out (by omega) HA.out)
        have HG1 := Lib.hid (once_good (n := (j : Int)) HG.out HRB.out HG.out)
        have HL1 := Lib.hid (fun h0 => (show o.length ≤ (onceP (j : Int) o (p.zip st) o).1.length from rising_sub_le HG.out.rise fun x hx => ((once_round h0 HG.out.rise HG.out.len).mem x).2 (.inl hx)))
        have HA1 := Lib.hid (once_args (n := (j : Int)) (l := o) HTA.out HA.out)
        have F1 := Lib.hid (fix_err (ps := p.zip st) (n := (j : Int)) (k := k') (o := o))
        have F2 := Lib.hid (fix_done (ps := p.zip st) (n := (j : Int)) (k := k') (o := o))
        have F3 := Lib.hid (fix_next (ps := p.zip st) (n := (j : Int)) (k := k') (o := o))
        generalize onceP (j : Int) o (p.zip st) o = r at *
        obtain ⟨x,q⟩ := r
        dsimp only at *
        by_cases hq : q = 0
        case neg =>
          have g2 : (q != 0) = true := by simpa using hq
          have HXE := Lib.hid (show fixP (p.zip st) (j : Int) 201 o0 = ([],q) from HX.out.trans (F1.out hq))
          have HEE := Lib.hid (show naiveP st 0 p l = ([],q) by rw [HE.out,run_err (by rw [HXE.out];exact hq),HXE.out])
          clear hq F1 F2 F3 HXE HL1 HG1
          go_wp2_with (go_at_call 77;refine (KC.out).mono ?_;rintro e w5 ⟨hb5,v5,rfl,ho5⟩;obtain ⟨a5,c5,rfl,-,-,-⟩ := id (ho5.read RFact.steady).form;have HB5 := Lib.hid (HBW.out.trans (hb5.mono (Below.size HBW.out)));clear hb5 ho5)
          go_ret2
          exact facts_err HEE.out HB5.out
        subst hq
        have hge := HL1.out rfl
        have hgx := HG1.out rfl
        have hxl := hgx.len
        have HG2 := Lib.hid hgx
        clear HL1 HG1 hgx F1
        by_cases hle : x.length = o.length
        · have HXE := Lib.hid (show fixP (p.zip st) (j : Int) 201 o0 = (o,0) from HX.out.trans (F2.out rfl hle))
          have HEE := Lib.hid (show naiveP st 0 p l = runP (p.zip st) (cn - (j + 1)) ((j + 1 : Nat) : Int) o by
            rw [HE.out,run_next (by rw [HXE.out]),HXE.out,HM.out];rfl)
          have i5 : ((x.length : Int) == (o.length : Int)) = true := beq_iff_eq.2 (by omega)
          have hle' : (x.length : Int) = (o.length : Int) := by omega
          clear hle F2 F3 HXE
          go_wp2_with (go_at_call 77;refine (KC.out).mono ?_;rintro e w5 ⟨hb5,v5,rfl,ho5⟩;obtain ⟨a5,c5,rfl,-,-,-⟩ := id (ho5.read RFact.steady).form;have HB5 := Lib.hid (HB.out.trans (hb5.mono (Below.size HB.out)));have HO5 := Lib.hid (HO.out.below RFact.steady hb5);clear hb5 ho5)
          go_roundw
          case rel => exact ⟨j + 1,o,by omega,by go_num,HG,HA,HO5,HB5,HEE⟩
          case measure => simp [intOf];omega
        · have HXE := Lib.hid (HX.out.trans (F3.out rfl hle))
          have i5 : ((x.length : Int) == (o.length : Int)) = false := beq_eq_false_iff_ne.2 (by omega)
          have hle' : ¬ (x.length : Int) = (o.length : Int) := by omega
          have hlx : o.length < x.length := by omega
          have hk2 : 200 < k' + x.length := by omega
          clear hle F2 F3
          go_wp2_with (go_at_call 77;refine (KC.out).mono ?_;rintro e w5 ⟨hb5,v5,rfl,ho5⟩;obtain ⟨a5,c5,rfl,-,-,-⟩ := id (ho5.read RFact.steady).form;have HB5 := Lib.hid (HB.out.trans (hb5.mono (Below.size HB.out)));have HO5 := Lib.hid ((ho5.lower (Below.size HBW.out)).moreS RFact.steady (S' := New w) fun b hb _ => Nat.le_trans (Below.size HBW.out) hb);clear hb5 ho5)
          go_roundw
          case rel => exact ⟨k',x,hk2,HG2,HA1,HO5,HB5,HXE⟩
          case measure => simp [lenV];omega
    · have HEE := Lib.hid (show naiveP st 0 p l = (o,0) by rw [HE.out,show cn - j = 0 by omega];rfl)
      go_wp2
      go_ret2
      exact facts_ok HEE.out (HB3.out.trans (HB.out.mono (Below.size HB3.out))) HO.out
end Go.Proofs.YtiiicochdidolaaGreat
namespace Go.Proofs.YtiiicochdidolaaGreat
open Go.RowKit
set_option maxRecDepth 100000 in
set_option maxHeartbeats 2000000 in
theorem guardCatch (F : Nat) (a b e0 : Int) (k : Nat) (w : World) (hF : Blk w F 49 #[.int .i64 a,.int .i64 b]) :
    CallsD Tryz.prog 23 #[.pointer (some ⟨F,0,none⟩)] (.panicking (oopsV e0 k)) w fun e' u' w' => e' = .returned (.tuple #[]) ∧
      u' = .panicking [{ v := .iface 124 (.agg #[.int .i64 e0,.int .i64 (k : Int)]),recovered := true }] ∧ Blk w' F 49 #[.int .i64 e0,.int .i64 (k : Int)] ∧ But F w w' := by
  have HA := Lib.hid (hF.alloc (.cells #[.int .i64 e0,.int .i64 (k : Int)] 124))
  have c0 : (w.alloc (.cells #[.int .i64 e0,.int .i64 (k : Int)] 124)).cell? ⟨F,0,none⟩ = some (.int .i64 a) := HA.out.cell 0
  have c1 : (w.alloc (.cells #[.int .i64 e0,.int .i64 (k : Int)] 124)).cell? ⟨F,1,none⟩ = some (.int .i64 b) := HA.out.cell 1
  have f0 := HA.out.frozen 0
  have f1 := HA.out.frozen 1
  clear hF
  unfold oopsV
  refine callsD_of_wpS Tryz.func23 rfl fun c₀ cs hu => ?_
  apply wpS_seq
  apply wpS_region
  simp [wpOpsS,go_sem,recoverD,hu,Tryz.ntmps23,Exit.thenS]
  have hta : ∀ w : World,(Instr.typeAssert (.iface 124 (.agg #[.int .i64 e0,.int .i64 (k : Int)])) 20 124 true).run Tryz.prog w = .ok (.tuple #[.agg #[.int .i64 e0,.int .i64 (k : Int)],.bool true]) w := fun _ => by kernel_rfl
  refine wpS_of_wp ?_
  change Code.wp _ _ _ { tmps := #[.pointer (some ⟨F,0,none⟩),undef,undef,undef,undef,.iface 124 (.agg #[.int .i64 e0,.int .i64 (k : Int)]),undef,undef,undef,undef,undef,undef,undef,undef,undef],defers := [] } _
  go_wp2
  simp [bodyPostS,results,Tryz.results23]
  exact ⟨(HA.out.set_ 0 (.int .i64 e0)).set_ 1 (.int .i64 (k : Int)),(((But.refl F w).alloc _).setCell (.inl rfl) _).setCell (.inl rfl) _⟩
set_option maxRecDepth 100000 in
set_option maxHeartbeats 2000000 in
theorem guardIdle (F : Nat) (w : World) :
    CallsD Tryz.prog 23 #[.pointer (some ⟨F,0,none⟩)] .returning w fun e' u' w' => e' = .returned (.tuple #[]) ∧ u' = .returning ∧ w' = w := by
  refine callsD_of_wpS Tryz.func23 rfl fun c₀ cs hu => ?_
  apply wpS_seq
  apply wpS_region
  simp [wpOpsS,go_sem,recoverD,hu,Tryz.ntmps23,Exit.thenS]
  refine wpS_of_wp ?_
  change Code.wp _ _ _ { tmps := #[.pointer (some ⟨F,0,none⟩),undef,undef,undef,undef,.nilIface,undef,undef,undef,undef,undef,undef,undef,undef,undef],defers := [] } _
  go_wp2
  cases c₀
  simp_all [bodyPostS,results,Tryz.results23]
theorem parse1 (F O : Nat) (a b : Int) (v : Value) (w : World) (hF : Blk w F 49 #[.int .i64 a,.int .i64 b]) (hO : Blk w O 26 #[v]) :
    CallsD Tryz.prog 72 #[.pointer (some ⟨F,0,none⟩),.pointer (some ⟨O,0,none⟩)] .returning w fun e' u' w' => u' = .returning ∧ e' = .returned (.tuple #[]) ∧ w' = (if a = 0 then w else w.setCell ⟨O,0,none⟩ (.slice none 0 0)) := by
  have c0 : w.cell? ⟨F,0,none⟩ = some (.int .i64 a) := hF.cell 0
  have d0 : w.cell? ⟨O,0,none⟩ = some v := hO.cell 0
  have f0 := hO.frozen 0
  clear hF hO
  by_cases ha : a = 0
  · subst ha
    rw [if_pos rfl]
    go_enter_d Tryz.func72,Tryz.ntmps72
    go_wp2
    go_end0
    exact ⟨rfl,rfl⟩
  · rw [if_neg ha]
    have h1 : (a != 0) = true := by simpa using ha
    go_enter_d Tryz.func72,Tryz.ntmps72
    go_wp2
    go_end0
    exact ⟨rfl,rfl⟩
def Got.bad {α : Type} : Got α → Prop
  | .ok _ => True
  | .error (e,_) => e ≠ 0
theorem wordF_bad (r : Bytes) : (wordF r).bad := by
  unfold wordF
  split
  · show (2 : Int) ≠ 0;decide
  · split
    · show (7 : Int) ≠ 0;decide
    · trivial
theorem mustF_bad (sign r : Bytes) : (mustF sign r).bad := by
  unfold mustF
  split
  · trivial
  · show (2 : Int) ≠ 0;decide
theorem termsF_bad : ∀ (n : Nat) (acc : List PTerm) (r : Bytes),(termsF n acc r).bad
  | 0,_,_ => by show (5 : Int) ≠ 0;decide
  | n + 1,acc,r => by
    have hw := wordF_bad r
    unfold termsF
    split
    · rename_i e h;rw [h] at hw;exact hw
    · split
      · exact termsF_bad n _ _
      · rename_i w r1 h _
        have hm := mustF_bad [41] (eatF [44] r1)
        split
        · rename_i e h2;rw [h2] at hm;exact hm
        · trivial
theorem atomF_bad (no : Bool) (r : Bytes) : (atomF no r).bad := by
  have hw := wordF_bad (behindNot no r)
  unfold atomF
  split
  · rename_i e h;rw [h] at hw;exact hw
  · split
    · show (7 : Int) ≠ 0;decide
    · split
      · rename_i w r2 h _ _
        have ht := termsF_bad 4 [] (eatF [40] r2)
        split
        · rename_i e h2;rw [h2] at ht;exact ht
        · trivial
      · trivial
theorem bodyF_bad' : ∀ (n : Nat) (acc : List PAtom) (r : Bytes),(bodyF n acc r).bad
  | 0,_,_ => by show (5 : Int) ≠ 0;decide
  | n + 1,acc,r => by
    have hw := atomF_bad true r
    unfold bodyF
    split
    · rename_i e h;rw [h] at hw;exact hw
    · split
      · exact bodyF_bad' n _ _
      · trivial
theorem tailF_bad (r : Bytes) : (tailF r).bad := by
  unfold tailF
  split
  · exact bodyF_bad' _ _ _
  · trivial
theorem ruleF_bad (r : Bytes) : (ruleF r).bad := by
  have hh := atomF_bad false r
  unfold ruleF headF
  split
  · rename_i e h;rw [h] at hh;exact hh
  · rename_i a r1 h
    have ht := tailF_bad r1
    split
    · rename_i e h2;rw [h2] at ht;exact ht
    · rename_i b r3 h2
      have hm := mustF_bad [46] r3
      split
      · rename_i e h3;rw [h3] at hm;exact hm
      · trivial
theorem progF_bad : ∀ (n : Nat) (acc : List PRule) (r : Bytes),(progF n acc r).bad
  | 0,acc,r => by
    unfold progF
    split
    · trivial
    · show (5 : Int) ≠ 0;decide
  | n + 1,acc,r => by
    unfold progF
    split
    · trivial
    · have hr := ruleF_bad (blankF false r)
      split
      · rename_i e h;rw [h] at hr;exact hr
      · exact progF_bad n _ _
theorem progF_suffix : ∀ (n : Nat) (acc : List PRule) (r : Bytes),(progF n acc r).left <:+ r
  | 0,acc,r => by
    unfold progF
    split
    · exact List.nil_suffix
    · exact blankF_suffix _ _
  | n + 1,acc,r => by
    unfold progF
    split
    · exact List.nil_suffix
    · have hr := ruleF_suffix (blankF false r)
      split
      · rename_i e h;rw [h] at hr;exact List.IsSuffix.trans hr (blankF_suffix _ _)
      · rename_i x r1 h
        rw [h] at hr
        exact (progF_suffix n _ _).trans (List.IsSuffix.trans (l₂ := blankF false r) hr (blankF_suffix _ _))
theorem rest_zero (s : Str) : rest s 0 = s.data.toList := rfl
theorem parseF_long {s : Str} (h : 3000 < s.size) : parseF s = ([],4,0) := by unfold parseF;rw [if_pos h]
theorem parseF_ok {s : Str} (h : ¬ 3000 < s.size) {l : List PRule} {r : Bytes} (k : progF 16 [] (rest s 0) = .ok (l,r)) : parseF s = (l,0,0) := by
  unfold parseF;rw [if_neg h,← rest_zero,k]
theorem parseF_error {s : Str} (h : ¬ 3000 < s.size) {e : Int} {r : Bytes} (k : progF 16 [] (rest s 0) = .error (e,r)) : parseF s = ([],e,((posF s r : Nat) : Int)) := by
  have hs := progF_suffix 16 [] (rest s 0)
  rw [k] at hs
  have hs' : r <:+ bytesOf s := hs
  unfold parseF;rw [if_neg h,← rest_zero,k,posF_int s hs']
def ParsePost (s : Str) (w : World) (e : Ending) (w' : World) : Prop :=
  (∃ v,e = .returned (.tuple #[v,.agg #[.int .i64 (parseF s).2.1,.int .i64 (parseF s).2.2]]) ∧ RdRules (New w) w' v (parseF s).1) ∧ Below w.heap.size w w'
def doorDefers (F O : Nat) (g : Nat) : List Deferred := [{ target := .fn (.func 23) #[],args := #[.pointer (some ⟨F,0,none⟩)] },{ target := .fn (.func g) #[.pointer (some ⟨F,0,none⟩),.pointer (some ⟨O,0,none⟩)],args := #[] }]
set_option maxRecDepth 100000 in
set_option maxHeartbeats 2000000 in
theorem parseDoorOk {s : Str} {w w5 : World} {a : Act} {F O : Nat} {l : List PRule} {v : Value} (hd : a.defers = doorDefers F O 72) (h2 : a.tmps.getD 2 undef = .pointer (some ⟨O,0,none⟩)) (h3 : a.tmps.getD 3 undef = .pointer (some ⟨F,0,none⟩))
    (hF : Blk w5 F 49 #[.int .i64 0,.int .i64 0]) (hO : Blk w5 O 26 #[v]) (hb : Below w.heap.size w w5) (hE : parseF s = (l,0,0)) (hv : RdRules (New w) w5 v l) :
    bodyPostD Tryz.prog Tryz.f37 (ParsePost s w) .ret a w5 := by
  have c0 : w5.cell? ⟨O,0,none⟩ = some v := hO.cell 0
  have d0 : w5.cell? ⟨F,0,none⟩ = some (.int .i64 0) := hF.cell 0
  have d1 : w5.cell? ⟨F,1,none⟩ = some (.int .i64 0) := hF.cell 1
  show Leaves _ _ a.tmps (ParsePost s w) a.defers .returning w5
  rw [hd]
  unfold doorDefers
  refine leaves_cons (f := 23) (args := #[.pointer (some ⟨F,0,none⟩)]) (by simp) (by simp [go_sem]) ?_
  refine (guardIdle F _).mono ?_
  rintro e u' w'' ⟨rfl,rfl,rfl⟩
  refine leaves_cons (f := 72) (args := #[.pointer (some ⟨F,0,none⟩),.pointer (some ⟨O,0,none⟩)]) (by simp [settle]) (by simp [go_sem]) ?_
  refine (parse1 F O 0 0 v _ hF hO).mono ?_
  rintro e u' w'' ⟨rfl,rfl,rfl⟩
  simp only
  show ∃ v',(results Tryz.f37 a.tmps).run Tryz.prog w'' = .ok v' w'' ∧ ParsePost s w (.returned v') w''
  refine ⟨.tuple #[v,.agg #[.int .i64 0,.int .i64 0]],?_,⟨v,?_,?_⟩,hb⟩
  · have h2' : a.tmps[2]?.getD undef = .pointer (some ⟨O,0,none⟩) := by simpa [Array.getD_eq_getD_getElem?] using h2
    have h3' : a.tmps[3]?.getD undef = .pointer (some ⟨F,0,none⟩) := by simpa [Array.getD_eq_getD_getElem?] using h3
    simp [results,Tryz.results37,h2',h3',c0,d0,d1,go_sem]
  · rw [hE]
  · rw [hE];exact hv
set_option maxRecDepth 100000 in
set_option maxHeartbeats 2000000 in
theorem parseDoorBad {s : Str} {w w5 : World} {a : Act} {F O : Nat} {er : Int} {p : Nat} {v : Value} (hd : a.defers = doorDefers F O 72) (h2 : a.tmps.getD 2 undef = .pointer (some ⟨O,0,none⟩)) (h3 : a.tmps.getD 3 undef = .pointer (some ⟨F,0,none⟩))
    (hF : Blk w5 F 49 #[.int .i64 0,.int .i64 0]) (hO : Blk w5 O 26 #[v]) (hOF : O ≠ F) (hwO : w.heap.size ≤ O) (hwF : w.heap.size ≤ F) (hb : Below w.heap.size w w5) (hE : parseF s = ([],er,(p : Int))) (hn : er ≠ 0) :
    bodyPostD Tryz.prog Tryz.f37 (ParsePost s w) (.panic (oopsV er p)) a w5 := by
  show Leaves _ _ a.tmps (ParsePost s w) a.defers (.panicking (oopsV er p)) w5
  rw [hd]
  unfold doorDefers
  refine leaves_cons (f := 23) (args := #[.pointer (some ⟨F,0,none⟩)]) (by simp) (by simp [go_sem]) ?_
  refine (guardCatch F 0 0 er p _ hF).mono ?_
  rintro e u' w6 ⟨rfl,rfl,hF6,hb6⟩
  have hO6 := hO.but hb6 hOF
  refine leaves_cons (f := 72) (args := #[.pointer (some ⟨F,0,none⟩),.pointer (some ⟨O,0,none⟩)]) (by simp [settle]) (by simp [go_sem]) ?_
  refine (parse1 F O er p v _ hF6 hO6).mono ?_
  rintro e u' w'' ⟨rfl,rfl,rfl⟩
  rw [if_neg hn]
  have hF7 := hF6.far (p := ⟨O,0,none⟩) (fun e => hOF e.symm) (.slice none 0 0)
  have hO7 : Blk (w6.setCell ⟨O,0,none⟩ (.slice none 0 0)) O 26 #[.slice none 0 0] := hO6.set_ 0 (.slice none 0 0)
  have hb7 : Below w.heap.size w (w6.setCell ⟨O,0,none⟩ (.slice none 0 0)) := (hb.grown hb6 hb.size (fun q hq => by have := Option.some.inj hq;omega)).setCell hwO _
  generalize w6.setCell ⟨O,0,none⟩ (.slice none 0 0) = w7 at *
  have c0 : w7.cell? ⟨O,0,none⟩ = some (.slice none 0 0) := hO7.cell 0
  have d0 : w7.cell? ⟨F,0,none⟩ = some (.int .i64 er) := hF7.cell 0
  have d1 : w7.cell? ⟨F,1,none⟩ = some (.int .i64 (p : Int)) := hF7.cell 1
  show ∃ v',(results Tryz.f37 a.tmps).run Tryz.prog w7 = .ok v' w7 ∧ ParsePost s w (.returned v') w7
  refine ⟨.tuple #[.slice none 0 0,.agg #[.int .i64 er,.int .i64 (p : Int)]],?_,⟨.slice none 0 0,?_,?_⟩,hb7⟩
  · have h2' : a.tmps[2]?.getD undef = .pointer (some ⟨O,0,none⟩) := by simpa [Array.getD_eq_getD_getElem?] using h2
    have h3' : a.tmps[3]?.getD undef = .pointer (some ⟨F,0,none⟩) := by simpa [Array.getD_eq_getD_getElem?] using h3
    simp [results,Tryz.results37,h2',h3',c0,d0,d1,go_sem]
  · rw [hE]
  · rw [hE];exact RdSlice.nothing (Nat.zero_le _) (fun _ => rfl)
def Thrown (F O g : Nat) (er : Int) (p : Nat) (T : World → Prop) : Exit → Act → World → Prop
  | .panic c,a,w => c = oopsV er p ∧ a.defers = doorDefers F O g ∧ a.tmps.getD 2 undef = .pointer (some ⟨O,0,none⟩) ∧ a.tmps.getD 3 undef = .pointer (some ⟨F,0,none⟩) ∧ T w
  | _,_,_ => False
theorem Thrown.put {F O g : Nat} {er : Int} {p : Nat} {T : World → Prop} {d : Nat} {v : Value} (h2 : d ≠ 2) (h3 : d ≠ 3) : ∀ c a w,Thrown F O g er p T (.panic c) (a.put (some d) v) w → Thrown F O g er p T (.panic c) a w := by
  rintro c a w ⟨k1,k2,k3,k4,k5⟩
  refine ⟨k1,k2,?_,?_,k5⟩
  · simpa [Act.put,Array.getD_eq_getD_getElem?,Array.getElem?_setIfInBounds,h2] using k3
  · simpa [Act.put,Array.getD_eq_getD_getElem?,Array.getElem?_setIfInBounds,h3] using k4
set_option maxRecDepth 100000 in
set_option maxHeartbeats 4000000 in
theorem parseCalls (s : Str) (w : World) (hs : s.size ≤ 1048576) : Calls Tryz.prog 37 #[.string s] w (ParsePost s w) := by
  have hmf : ∀ (fn : Fn) (first cap : Array Value) (w : World),(Instr.makeFunc fn first cap).run Tryz.prog w = .ok (.func fn first cap) w := fun _ _ _ _ => rfl
  by_cases h3 : 3000 < s.size
  · have i1 : (3000 : Int) < (s.size : Int) := by omega
    have HE := Lib.hid (parseF_long h3)
    go_enter_defers Tryz.func37,Tryz.ntmps37
    go_wp2
    simp [Leaves,results,Tryz.results37,go_sem,bodyPostD]
    unfold ParsePost
    rw [HE.out]
    exact ⟨⟨_,rfl,RdSlice.nothing (Nat.zero_le _) (fun _ => rfl)⟩,(((Below.refl _ _).alloc (Nat.le_refl _) _).alloc (by simp) _)⟩
  · have i1 : ¬ (3000 : Int) < (s.size : Int) := by omega
    have HO0 := Lib.hid (show Blk ((w.alloc (.cells #[.slice none 0 0] 26)).alloc (.cells #[.int .i64 0,.int .i64 0] 49)) w.heap.size 26 #[.slice none 0 0] from (Blk.new w _ _).alloc _)
    have HF0 := Lib.hid (show Blk ((w.alloc (.cells #[.slice none 0 0] 26)).alloc (.cells #[.int .i64 0,.int .i64 0] 49)) (w.heap.size + 1) 49 #[.int .i64 0,.int .i64 0] from heap_new_at (by simp))
    have HB0 := Lib.hid (show Below w.heap.size w ((w.alloc (.cells #[.slice none 0 0] 26)).alloc (.cells #[.int .i64 0,.int .i64 0] 49)) from ((Below.refl _ _).alloc (Nat.le_refl _) _).alloc (by simp) _)
    have hz0 : ((w.alloc (.cells #[.slice none 0 0] 26)).alloc (.cells #[.int .i64 0,.int .i64 0] 49)).heap.size = w.heap.size + 2 := by simp
    rcases hg : progF 16 [] (rest s 0) with ⟨er,r'⟩ | ⟨l,r⟩
    · have HE := Lib.hid (parseF_error h3 hg)
      have HNZ := Lib.hid (show er ≠ 0 by have := progF_bad 16 [] (rest s 0);rw [hg] at this;exact this)
      have HGG := Lib.hid hg
      clear hg
      go_enter_defers Tryz.func37,Tryz.ntmps37
      go_wp2
      generalize (w.alloc (.cells #[.slice none 0 0] 26)).alloc (.cells #[.int .i64 0,.int .i64 0] 49) = w0 at *
      have HZ0 := Lib.hid hz0
      clear hz0
      have f0 : w0.cell? ⟨w.heap.size + 1,0,none⟩ = some (.int .i64 0) := HF0.out.cell 0
      have f1 : w0.cell? ⟨w.heap.size + 1,1,none⟩ = some (.int .i64 0) := HF0.out.cell 1
      have g0 := World.new_ne w0 ⟨w.heap.size + 1,0,none⟩ f0
      have g1 := World.new_ne w0 ⟨w.heap.size + 1,1,none⟩ f1
      have HPS := Lib.hid (show Ps w0.heap.size s 0 ((w0.alloc (.cells #[.string s,.int .i64 0] 87)).drew) from ⟨heap_alloc_new w0 _,Nat.zero_le _⟩)
      refine Code.wp_mono (Q := Thrown (w.heap.size + 1) w.heap.size 72 er (posF s r') (fun w5 => But w0.heap.size ((w0.alloc (.cells #[.string s,.int .i64 0] 87)).drew) w5)) ?_ ?_
      · rintro (_ | _ | _ | _ | c | _) a5 w5 h5
        all_goals first | exact h5.elim | skip
        obtain ⟨rfl,k2,k3,k4,hb5⟩ := h5
        have hF5 := (show Blk ((w0.alloc (.cells #[.string s,.int .i64 0] 87)).drew) (w.heap.size + 1) 49 #[.int .i64 0,.int .i64 0] from HF0.out.alloc _).but hb5 (by have := HZ0.out;omega)
        have hO5 := (show Blk ((w0.alloc (.cells #[.string s,.int .i64 0] 87)).drew) w.heap.size 26 #[.slice none 0 0] from HO0.out.alloc _).but hb5 (by have := HZ0.out;omega)
        refine parseDoorBad k2 k3 k4 hF5 hO5 (by omega) (Nat.le_refl _) (by omega) ?_ HE.out HNZ.out
        exact ((HB0.out.alloc HB0.out.size _).drew).grown hb5 (by simp;have := HZ0.out;omega) (fun q hq => by have := Option.some.inj hq;have := HZ0.out;omega)
      refine wp_region_held_drew (S := fun w' => w'.cell? ⟨w.heap.size + 1,0,none⟩ = some (.int .i64 0) ∧ w'.cell? ⟨w.heap.size + 1,1,none⟩ = some (.int .i64 0)) (by kernel_rfl) ?_ (fun hHeld => ?_)
      · exact ⟨f0,f1⟩
      refine wpAnyH_take (i := 0) (oi := ⟨some 9,_,_,_,_,_⟩) (v := ?_) rfl (by kernel_rfl) (by kernel_rfl) (by kernel_rfl) (Thrown.put (by decide) (by decide)) (Or.inl ⟨by rfl,?_⟩) (by assumption) ?_
      rotate_left
      · (intro w' hSw;(try dsimp only at hSw);go_simp;try with_reducible rfl)
      try simp only [Act.put,List.setIfInBounds_toArray,List.set_cons_zero,List.set_cons_succ]
      refine wpAnyH_take (i := 1) (oi := ⟨some 10,_,_,_,_,_⟩) (v := ?_) rfl (by kernel_rfl) (by kernel_rfl) (by kernel_rfl) (Thrown.put (by decide) (by decide)) (Or.inl ⟨by rfl,?_⟩) (by assumption) ?_
      rotate_left
      · (intro w' hSw;(try dsimp only at hSw);go_simp;try with_reducible rfl)
      try simp only [Act.put,List.setIfInBounds_toArray,List.set_cons_zero,List.set_cons_succ]
      refine wpAnyH_take (i := 4) (oi := ⟨some 13,_,_,_,_,_⟩) (v := ?_) rfl (by kernel_rfl) (by kernel_rfl) (by kernel_rfl) (Thrown.put (by decide) (by decide)) (Or.inl ⟨by rfl,?_⟩) (by assumption) ?_
      rotate_left
      · (intro w' hSw;(try dsimp only at hSw);go_simp;try with_reducible rfl)
      try simp only [Act.put,List.setIfInBounds_toArray,List.set_cons_zero,List.set_cons_succ]
      refine wpAnyH_ready (rs := [2]) (by kernel_rfl) (by simp) ?_
      refine AllReadyH.cons (o := ⟨some 11,_,_,_,_,_⟩) rfl (fun K hK => ?_) AllReadyH.nil
      go_simp
      refine hK.out _ _ ?_ (fun hHeld => ?_)
      · exact ⟨(HF0.out.alloc _).cell 0,(HF0.out.alloc _).cell 1⟩
      clear hK K
      try simp only [Act.put,List.setIfInBounds_toArray,List.set_cons_zero,List.set_cons_succ]
      refine wpAnyH_ready (rs := [3]) (by kernel_rfl) (by simp) ?_
      refine AllReadyH.cons (o := ⟨some 12,_,_,_,_,_⟩) rfl (fun K hK => ?_) AllReadyH.nil
      go_simp
      go_at_call 73
      refine (programCalls w0.heap.size s 0 _ hs HPS.out).mono ?_
      rintro e w5 h5
      obtain ⟨hb5,rfl⟩ := h5.error HGG.out
      exact ⟨rfl,rfl,rfl,rfl,hb5⟩
    · have HE := Lib.hid (parseF_ok h3 hg)
      have HGG := Lib.hid hg
      clear hg
      go_enter_defers Tryz.func37,Tryz.ntmps37
      go_wp2
      generalize (w.alloc (.cells #[.slice none 0 0] 26)).alloc (.cells #[.int .i64 0,.int .i64 0] 49) = w0 at *
      have HZ0 := Lib.hid hz0
      clear hz0
      have f0 : w0.cell? ⟨w.heap.size + 1,0,none⟩ = some (.int .i64 0) := HF0.out.cell 0
      have f1 : w0.cell? ⟨w.heap.size + 1,1,none⟩ = some (.int .i64 0) := HF0.out.cell 1
      have g0 := World.new_ne w0 ⟨w.heap.size + 1,0,none⟩ f0
      have g1 := World.new_ne w0 ⟨w.heap.size + 1,1,none⟩ f1
      have HPS := Lib.hid (show Ps w0.heap.size s 0 ((w0.alloc (.cells #[.string s,.int .i64 0] 87)).drew) from ⟨heap_alloc_new w0 _,Nat.zero_le _⟩)
      go_region_held3 (fun w' => w'.cell? ⟨w.heap.size + 1,0,none⟩ = some (.int .i64 0) ∧ w'.cell? ⟨w.heap.size + 1,1,none⟩ = some (.int .i64 0))
        (first | (exact ⟨((HF6.out.set_ 0 (.int .i64 0)).set_ 1 (.int .i64 0)).cell 0,((HF6.out.set_ 0 (.int .i64 0)).set_ 1 (.int .i64 0)).cell 1⟩) | (exact ⟨HF6.out.cell 0,HF6.out.cell 1⟩) | (exact ⟨HF5.out.cell 0,HF5.out.cell 1⟩) | go_keep)
        (first | (go_at_call 73;refine (programCalls w0.heap.size s 0 _ hs HPS.out).mono ?_;rintro e w5 h5;obtain ⟨hb5,v5,rfl,hv5,-⟩ := h5.ok HGG.out;have hv5' : RdRules (New ((w0.alloc (.cells #[.string s,.int .i64 0] 87)).drew)) w5 v5 l := hv5;obtain ⟨va,vc,rfl,-,-,-⟩ := id hv5'.form;have HF5 := Lib.hid ((show Blk ((w0.alloc (.cells #[.string s,.int .i64 0] 87)).drew) (w.heap.size + 1) 49 #[.int .i64 0,.int .i64 0] from HF0.out.alloc _).but hb5 (by have := HZ0.out;omega));have HO5 := Lib.hid ((show Blk ((w0.alloc (.cells #[.string s,.int .i64 0] 87)).drew) w.heap.size 26 #[.slice none 0 0] from HO0.out.alloc _).but hb5 (by have := HZ0.out;omega));have HB5 := Lib.hid (((HB0.out.alloc HB0.out.size _).drew).grown hb5 (by simp;have := HZ0.out;omega) (fun q hq => by have := Option.some.inj hq;have := HZ0.out;omega));have HV5 := Lib.hid hv5';have d0 : w5.cell? ⟨w.heap.size,0,none⟩ = some (.slice none 0 0) := HO5.out.cell 0;have d1 := HO5.out.frozen 0;have HF6 := Lib.hid (HF5.out.far (p := ⟨w.heap.size,0,none⟩) (show w.heap.size + 1 ≠ w.heap.size by omega) (.slice va l.length vc));have x0 := HF6.out.frozen 0;have x1 := HF6.out.frozen 1;clear h5 hb5 hv5))
      go_wp2
      have HO6 : Blk (w5.setCell ⟨w.heap.size,0,none⟩ (.slice va l.length vc)) w.heap.size 26 #[.slice va l.length vc] := HO5.out.set_ 0 (.slice va l.length vc)
      have hNO : ¬ New ((w0.alloc (.cells #[.string s,.int .i64 0] 87)).drew) w.heap.size := fun h => by
        have h' : (w0.alloc (.cells #[.string s,.int .i64 0] 87)).heap.size ≤ w.heap.size := h
        simp at h';have := HZ0.out;omega
      have hNF : ¬ New ((w0.alloc (.cells #[.string s,.int .i64 0] 87)).drew) (w.heap.size + 1) := fun h => by
        have h' : (w0.alloc (.cells #[.string s,.int .i64 0] 87)).heap.size ≤ w.heap.size + 1 := h
        simp at h';have := HZ0.out;omega
      refine parseDoorOk (F := w.heap.size + 1) (O := w.heap.size) rfl rfl rfl ((HF6.out.set_ 0 (.int .i64 0)).set_ 1 (.int .i64 0)) ((HO6.far (p := ⟨w.heap.size + 1,0,none⟩) (show w.heap.size ≠ w.heap.size + 1 by omega) _).far (p := ⟨w.heap.size + 1,1,none⟩) (show w.heap.size ≠ w.heap.size + 1 by omega) _) (((HB5.out.setCell (Nat.le_refl _) _).setCell (Nat.le_succ _) _).setCell (Nat.le_succ _) _) HE.out ?_
      refine (((HV5.out.agree RRule.steady (Agree.setCell (p := ⟨w.heap.size,0,none⟩) hNO _)).agree RRule.steady (Agree.setCell (p := ⟨w.heap.size + 1,0,none⟩) hNF _)).agree RRule.steady (Agree.setCell (p := ⟨w.heap.size + 1,1,none⟩) hNF _)).more RRule.steady (fun b hb _ => ?_)
      have hb' : (w0.alloc (.cells #[.string s,.int .i64 0] 87)).heap.size ≤ b := hb
      show w.heap.size ≤ b
      simp at hb';have := HZ0.out;omega
end Go.Proofs.YtiiicochdidolaaGreat
namespace Go.Proofs.YtiiicochdidolaaGreat
open Go.RowKit
theorem parseKnown {s : Str} {p : List PRule} {n : Nat} (hn : p.length = n) (hs : s.size ≤ 1048576) (h : parseF s = (p,0,0)) (w : World) :
    Calls Tryz.prog 37 #[.string s] w fun e w' => (∃ a c,e = .returned (.tuple #[.slice a n c,.agg #[.int .i64 0,.int .i64 0]]) ∧ RdRules (New w) w' (.slice a n c) p) ∧ Below w.heap.size w w' := by
  refine (parseCalls s w hs).mono fun e w' ⟨⟨v,he,hr⟩,hb⟩ => ⟨?_,hb⟩
  rw [h] at he hr
  obtain ⟨a,c,rfl,-,-,-⟩ := id hr.form
  subst hn
  exact ⟨a,c,he,hr⟩
theorem strataKnown {S : Nat → Prop} {p : List PRule} {v : Value} {w : World} {l : List Int} {x y : Int} {n : Nat} (hn : l.length = n) (hk : StrataIs p l (x,y)) (h : RdRules S w v p) (n1 : p.length ≤ 1048576) (n2 : ∀ r ∈ p,RuleSmall r) (n3 : ∀ r ∈ p,NameSmall r) :
    Calls Tryz.prog 74 #[v] w fun e w' => (∃ a c,e = .returned (.tuple #[.slice a n c,.agg #[.int .i64 x,.int .i64 y]]) ∧ RdInts (New w) w' (.slice a n c) l) ∧ Below w.heap.size w w' := by
  refine (strataCalls p v w h n1 n2 n3).mono fun e w' ⟨hb,v',l',q,he,hr,hs⟩ => ⟨?_,hb⟩
  obtain ⟨rfl,rfl⟩ := hs.unique hk
  obtain ⟨a,c,rfl,-,-,-⟩ := id hr.form
  subst hn
  exact ⟨a,c,he,hr⟩
def ruleSmallB (x : PRule) : Bool := decide (x.head.terms.length ≤ 1048576) && x.head.terms.all (fun t => decide (t.name.size ≤ 1048576)) && decide (x.body.length ≤ 1048576) && x.body.all (fun a => decide (a.terms.length ≤ 1048576) && a.terms.all (fun t => decide (t.name.size ≤ 1048576)))
theorem ruleSmall_of {x : PRule} (h : ruleSmallB x = true) : RuleSmall x := by
  simp only [ruleSmallB,Bool.and_eq_true,List.all_eq_true,decide_eq_true_eq] at h
  exact ⟨h.1.1.1,h.1.1.2,h.1.2,fun a ha => (h.2 a ha).1,fun a ha => (h.2 a ha).2⟩
def nameSmallB (x : PRule) : Bool := decide (x.head.name.size ≤ 1048576) && x.body.all (fun a => decide (a.name.size ≤ 1048576))
theorem nameSmall_of {x : PRule} (h : nameSmallB x = true) : NameSmall x := by
  simp only [nameSmallB,Bool.and_eq_true,List.all_eq_true,decide_eq_true_eq] at h
  exact ⟨h.1,h.2⟩
end Go.Proofs.YtiiicochdidolaaGreat
namespace Go.Proofs.YtiiicochdidolaaGreat
open Go.RowKit
theorem Blk.at_ {w : World} {t : TypeId} {cs : Array Value} {n : Nat} (h : w.heap.size = n) : Blk (w.alloc (.cells cs t)) n t cs := heap_new_at h
theorem RdStrs.lit {w : World} {b : Nat} {t : TypeId} {l : List Str} {n : Nat} (hn : l.length = n) (hm : n ≤ maxLen) (h : Blk w b t (l.map Value.string).toArray) : RdStrs (fun _ => True) w (.slice (some ⟨b,0,none⟩) n n) l := by
  subst hn
  refine ⟨_,_,rfl,Nat.le_refl _,hm,(fun h => by cases h),fun i x hx => ⟨b,0,[.string x],rfl,trivial,h.lt,rfl,fun j u hu => ?_,rfl⟩⟩
  rcases j with _ | j
  · obtain rfl := Option.some.inj hu
    rw [h.cell]
    simp [hx]
  · simp at hu
theorem RdFacts.lit {w : World} {b : Nat} {t : TypeId} {l : List PFact} (avs : List Value) {n : Nat} (hn : l.length = n) (hm : n ≤ maxLen) (hl : avs.length = n) (h : Blk w b t (List.zipWith (fun (f : PFact) v => [Value.string f.name,v]) l avs).flatten.toArray)
    (ha : ∀ (i : Nat) (f : PFact) (v : Value),l[i]? = some f → avs[i]? = some v → RdStrs (fun _ => True) w v f.args) : RdFacts (fun _ => True) w (.slice (some ⟨b,0,none⟩) n n) l := by
  subst hn
  refine ⟨_,_,rfl,Nat.le_refl _,hm,(fun h => by cases h),fun i x hx => ?_⟩
  have hi := (List.getElem?_eq_some_iff.1 hx).1
  obtain ⟨v,hv⟩ : ∃ v,avs[i]? = some v := ⟨_,List.getElem?_eq_getElem (by omega)⟩
  refine ⟨b,0,[.string x.name,v],rfl,trivial,h.lt,rfl,fun j u hu => ?_,v,rfl,ha i x v hx hv⟩
  have hz : (List.zipWith (fun (f : PFact) v => [Value.string f.name,v]) l avs)[i]? = some [.string x.name,v] := by
    rw [List.getElem?_zipWith,hx,hv]
  have hg := flatten_get (k := 2) _ (fun cs hcs => by
    obtain ⟨i,hi⟩ := List.mem_iff_getElem?.1 hcs
    rw [List.getElem?_zipWith] at hi
    split at hi
    · obtain rfl := Option.some.inj hi;rfl
    · cases hi) i _ j u hz hu
  rw [h.cell,List.getElem?_toArray,Nat.zero_add]
  exact hg
end Go.Proofs.YtiiicochdidolaaGreat
namespace Go.Proofs.YtiiicochdidolaaGreat
open Go.RowKit
def xX : Str := ⟨#[88]⟩
def xY : Str := ⟨#[89]⟩
def xZ : Str := ⟨#[90]⟩
def solB (p : List PRule) (M : Str → Nat) : Bool := p.all fun r => r.body.all fun a => decide (M a.name + dl p a ≤ M r.head.name)
theorem sol_of {p : List PRule} {M : Str → Nat} (h0 : ∀ s,s ∉ headsOf p → M s = 0) (h : solB p M = true) : Sol p M :=
  ⟨h0,fun r hr a ha => of_decide_eq_true (List.all_eq_true.1 (List.all_eq_true.1 h r hr) a ha)⟩
theorem naiveKnown {S S3 : Nat → Prop} {p : List PRule} {v fv : Value} {st : List Int} {q : Int × Int} {l r : List PFact} {e0 : Int} {n : Nat} {w : World} (hn : r.length = n) (hS : StrataIs p st q) (hr : naiveP st q.1 p l = (r,e0)) (h : RdRules S w v p) (hf : RdFacts S3 w fv l)
    (n1 : p.length ≤ 1048576) (n2 : ∀ r ∈ p,RuleSmall r) (n3 : ∀ r ∈ p,NameSmall r) (n4 : l.length ≤ 1048576) (n5 : ∀ x ∈ l,x.args.length ≤ 1048576) :
    Calls Tryz.prog 38 #[v,fv] w fun e w' => (∃ a c,e = .returned (.tuple #[.slice a n c,.int .i64 e0]) ∧ RdFacts (fun _ => True) w' (.slice a n c) r) ∧ Below w.heap.size w w' := by
  subst hn
  refine (naiveCalls p v fv st q l w hS h hf n1 n2 n3 n4 n5).mono fun e w' ⟨hb,v',he,ho⟩ => ⟨?_,hb⟩
  rw [hr] at he ho
  have h' := (ho.read RFact.steady).more RFact.steady (S' := fun _ => True) (fun _ _ _ => trivial)
  obtain ⟨a,c,rfl,-,-,-⟩ := id h'.form
  exact ⟨a,c,he,h'⟩
end Go.Proofs.YtiiicochdidolaaGreat
namespace Go.Proofs.YtiiicochdidolaaGreat
end Go.Proofs.YtiiicochdidolaaGreat
