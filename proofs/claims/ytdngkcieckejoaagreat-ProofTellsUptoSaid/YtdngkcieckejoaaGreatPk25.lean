/-
  THE TEXTS BindsW, RefB, one behind the other.
-/
import Derived.Test.YtdngkcieckejoaaGreatPk4
import Derived.Test.YtdngkcieckejoaaGreatPk5
import Derived.Test.YtdngkcieckejoaaGreatPk7
import Derived.Test.YtdngkcieckejoaaGreatPk10
import Derived.Test.YtdngkcieckejoaaGreatPk16
import Derived.Test.YtdngkcieckejoaaGreatPk18
import Derived.Test.YtdngkcieckejoaaGreatPk24
namespace Go.Proofs.YtdngkcieckejoaaGreat
section
open Go.RowKit Go.Maps
theorem RangeE.below {w w' : World} {b r n B : Nat} {f : Str → Option Str} {left : Lit → Bool} {cnt : Nat} (h : RangeE w b r n f left cnt) (hb : Below B w w') (h1 : b < B) (h2 : r < B) : RangeE w' b r n f left cnt := by
 obtain ⟨D,⟨es,clock,since,seen,c0,g1,F,hs,hD,hr,rest⟩,g2,g3⟩ := h
 exact ⟨D,⟨es,clock,since,seen,c0,(hb.block b h1).trans g1,F,hs,hD,(hb.block r h2).trans hr,rest⟩,g2,g3⟩
attribute [local go_sem ↓] Go.wp_at_zero Go.wp_at_succ
set_option maxRecDepth 100000 in
set_option maxHeartbeats 0 in
theorem bindsRef (l : Binds) (b n : Nat) (w : World) (he : MapE w b n (fun v => getB v l)) (hd : Nd l) (hs : ∀ y ∈ l,y.var.size ≤ maxLen) (hn : n ≤ 1073741824) :
 Calls Tryz.prog 75 #[.map (some b)] w fun e w' => (∃ v,e = .returned v ∧ RdBinds (New w) w' v (ofC cmpBind l)) ∧ Below w.heap.size w w' := by
 have HM := ζ he
 have hbl := he.lt
 have HND := ζ hd
 have HSZ := ζ hs
 clear he hd hs
 go_enter Tryz.func75,Tryz.ntmps75
 go_wp2_with (first
  | (at_range;refine wpList_range_E _ rfl _ rfl b n _ rfl HM.out ?_;intro w0 left cnt hrg0 hl0 hg0 hz0)
  | go_in)
 go_frame
 have HG0 := ζ ((ζb w.heap.size w).grown hg0 (ζn _) (fun j hj => by cases hj))
 have HR0 := ζ hrg0
 have HT0 := ζ (taken_none hl0)
 have hz0' : w.heap.size < w0.heap.size := by omega
 clear hrg0 hg0 hl0 hz0
 go_loopw [3] (fun v wr => ∃ left cnt,∃ o : Binds,o.length + cnt ≤ n ∧ Hid (RangeE wr b w.heap.size n (fun v => getB v l) left cnt) ∧ Hid (Owned 2 RBind (w.heap.size + 1) 110 (fun _ => False) wr v o) ∧ Hid (RiseV o) ∧ Hid (∀ y ∈ o,y.var.size ≤ maxLen) ∧ Hid (∀ t : Str,t.size ≤ maxLen → getB t o = taken (fun v => getB v l) left t) ∧ Hid (Below w.heap.size w wr)) (fun _ wr => wr.rangeLeft b w.heap.size)
 case atStart => exact ⟨left,cnt,[],by have := HR0.out.le;simpa using this,HR0,ζ Owned.nil,ζ List.Pairwise.nil,ζ (fun y hy => by cases hy),ζ (fun t ht => HT0.out t ht),HG0⟩
 case round =>
  clear HR0 HG0 HT0
  obtain ⟨left,cnt,o,hoc,HR0,HO,HV,HZ,HG,HB⟩ := hrel
  obtain ⟨oa,oc,rfl,hol,-,-⟩ := id (HO.out.read RBind.steady).form
  have hsz := HR0.out.lt
  go_wp2_with (first
   | (at_next;refine wpList_next_E _ rfl _ rfl b w.heap.size n _ left cnt rfl HR0.out ?_ ?_)
   | go_in)
  ·intro hd
   have HE := ζ (show o = ofC cmpBind l from riseV_all HND.out HSZ.out HV.out HZ.out (fun v hv => by rw [HG.out v hv,taken_all hd]))
   clear hd
   go_wp2
   go_ret
   exact ⟨⟨_,rfl,by rw [← HE.out];exact (HO.out.read RBind.steady).more RBind.steady (fun q hq _ => hq.elim False.elim (fun h => Nat.le_trans (Nat.le_succ _) h))⟩,HB.out⟩
  ·intro s c w5 cnt5 hs5 hc5 hleft hfs hrg hlt hgr hsz5 hen
   have HO3 := ζ (HO.out.kept RBind.steady hgr (fun q hq e => by have := (HO.out.row_lt hq).1;have e1 := Option.some.inj e;omega))
   have HR3 := ζ hrg
   have HB3 := ζ (HB.out.grown hgr (by omega) (fun j hj => by cases hj;exact ζn _))
   have hgs : getB s o = none := by rw [HG.out s hs5];unfold taken;rw [if_pos hleft]
   have hns : s ∉ Vs o := getB_none.1 hgs
   have HNS := ζ hns
   have HTK := ζ (taken_step (left := left) (f := fun v => getB v l) hfs)
   have hol2 : o.length < 1073741825 := by omega
   clear hleft hfs hrg hgr hgs hns HO HB
   obtain ⟨W3,hW3⟩ : ∃ W : World,W = w5 := ⟨_,rfl⟩
   subst hW3
   have HS3 := ζ (show w.heap.size + 1 ≤ W3.heap.size ∧ b < w.heap.size ∧ True by exact ⟨by omega,hbl,trivial⟩)
   clear hsz5 hsz
   go_wp2
   go_loopw [6] (fun i wr => ∃ k : Nat,k ≤ o.length ∧ i = .int .i64 k ∧ Hid (∀ y ∈ o.take k,strLt y.var s = true) ∧ W3 = wr) (fun i _ => o.length - (intOf i).toNat)
   case atStart => exact ⟨0,Nat.zero_le _,rfl,ζ (by simp),rfl⟩
   case round =>
    obtain ⟨k,hk,rfl,HK,rfl⟩ := hrel
    have HFIN := ζ (fun (h2 : ∀ y,o[k]? = some y → strLt y.var s = false) => riseV_ins (x := ⟨s,c⟩) HV.out HK.out h2 HNS.out)
    have hcs : (∃ y,o[k]? = some y ∧ k < o.length ∧ strLt y.var s = true) ∨ (∃ y,o[k]? = some y ∧ k < o.length ∧ strLt y.var s = false) ∨ k = o.length := by
     by_cases hl : k < o.length
     ·cases hq : strLt (o[k]).var s
      ·exact .inr (.inl ⟨o[k],ζe hl,hl,hq⟩)
      ·exact .inl ⟨o[k],ζe hl,hl,hq⟩
     ·exact .inr (.inr (by omega))
    rcases hcs with ⟨y,hy,hl,hq⟩ | ⟨y,hy,hl,hq⟩ | hl
    ·obtain ⟨b1,o1,rfl,-,-,d0,d1⟩ := RdBinds.at (HO3.out.read RBind.steady) hy
     have HK1 := ζ (show ∀ z ∈ o.take (k + 1),strLt z.var s = true by
      intro z hz
      rw [List.take_add_one,hy] at hz
      rcases List.mem_append.1 hz with hz | hz
      ·exact HK.out z hz
      ·obtain rfl : z = y := by simpa using hz
       exact hq)
     have i1 : (0 : Int) ≤ (k : Int) := by omega
     have i2 : (k : Int) < (o.length : Int) := by omega
     have i5 : IntKind.i64.wrap (k : Int) = k := by rw [IntKind.wrap_i64];omega
     have g1 : Op.bytesLess y.var.toList s.toList = true := hq
     clear hy hq HFIN
     go_wp2
     go_roundw
     case rel => exact ⟨k + 1,by omega,by go_num,HK1,trivial⟩
     case measure => simp [intOf];omega
    ·obtain ⟨b1,o1,rfl,-,-,d0,d1⟩ := RdBinds.at (HO3.out.read RBind.steady) hy
     have HNV := ζ (HFIN.out (fun z hz => by rw [hy] at hz;obtain rfl := Option.some.inj hz;exact hq))
     have HNZ := ζ (show ∀ z ∈ insAt k ⟨s,c⟩ o,z.var.size ≤ maxLen from fun z hz => by rcases mem_insAt.1 hz with rfl | hz;exact hs5;exact HZ.out z hz)
     have HNG := ζ (show ∀ t : Str,t.size ≤ maxLen → getB t (insAt k ⟨s,c⟩ o) = taken (fun v => getB v l) (fun z => left z && !z.sameKey (keyL s)) t from fun t ht => by rw [getB_insAt HV.out HNV.out HNS.out,← HTK.out];dsimp only;rw [HG.out t ht])
     have i1 : (0 : Int) ≤ (k : Int) := by omega
     have i2' : (k : Int) < (o.length : Int) := by omega
     have i5 : IntKind.i64.wrap (k : Int) = k := by rw [IntKind.wrap_i64];omega
     have g1 : Op.bytesLess y.var.toList s.toList = false := hq
     clear hy hq HFIN
     go_wp2_with fail
     have HT := ζ (HO3.out.read RBind.steady)
     have HD := ζ (HT.out.drop_some hk)
     have HL := ζ (show (o.take k).length ≤ o.length by rw [List.length_take];exact Nat.min_le_right _ _)
     have HLD := ζ (show (o.drop k).length ≤ o.length by rw [List.length_drop];exact Nat.sub_le _ _)
     have i1 : (0 : Int) ≤ (k : Int) := by omega
     have i2 : (k : Int) ≤ (oc : Int) := by omega
     have i3 : (k : Int) ≤ (o.length : Int) := by omega
     refine wp_region_held_drew (S := (fun w' => Hid (Below W3.heap.size W3 w'))) (by kernel_rfl) ?_ (fun hHeld => ?_)
     ·exact ζ ((ζb _ _).drew)
     refine ζt (i := 1) (oi := ⟨some 30,_,_,_,_,_⟩) (v := ?_) rfl (Or.inl ⟨by rfl,?_⟩) (by assumption) ?_
     rotate_left
     ·(intro w' hSw;(try dsimp only at hSw);go_simp;try with_reducible rfl)
     try simp only [ζp]
     refine ζt (i := 2) (oi := ⟨some 31,_,_,_,_,_⟩) (v := ?_) rfl (Or.inl ⟨by rfl,?_⟩) (by assumption) ?_
     rotate_left
     ·(intro w' hSw;(try dsimp only at hSw);go_simp;try with_reducible rfl)
     try simp only [ζp]
     refine ζt (i := 3) (oi := ⟨some 32,_,_,_,_,_⟩) (v := ?_) rfl (Or.inl ⟨by rfl,?_⟩) (by assumption) ?_
     rotate_left
     ·(intro w' hSw;(try dsimp only at hSw);go_simp;try with_reducible rfl)
     try simp only [ζp]
     refine ζt (i := 5) (oi := ⟨some 34,_,_,_,_,_⟩) (v := ?_) rfl (Or.inl ⟨by rfl,?_⟩) (by assumption) ?_
     rotate_left
     ·(intro w' hSw;(try dsimp only at hSw);go_simp;try with_reducible rfl)
     try simp only [ζp]
     refine ζt (i := 6) (oi := ⟨some 35,_,_,_,_,_⟩) (v := ?_) rfl (Or.inl ⟨by rfl,?_⟩) (by assumption) ?_
     rotate_left
     ·(intro w' hSw;(try dsimp only at hSw);go_simp;try with_reducible rfl)
     try simp only [ζp]
     refine ζt (i := 7) (oi := ⟨some 36,_,_,_,_,_⟩) (v := ?_) rfl (Or.inl ⟨by rfl,?_⟩) (by assumption) ?_
     rotate_left
     ·(intro w' hSw;(try dsimp only at hSw);go_simp;try with_reducible rfl)
     try simp only [ζp]
     refine ζt (i := 10) (oi := ⟨some 39,_,_,_,_,_⟩) (v := ?_) rfl (Or.inl ⟨by rfl,?_⟩) (by assumption) ?_
     rotate_left
     ·(intro w' hSw;(try dsimp only at hSw);go_simp;try with_reducible rfl)
     try simp only [ζp]
     refine ζt (i := 11) (oi := ⟨some 40,_,_,_,_,_⟩) (v := ?_) rfl (Or.inl ⟨by rfl,?_⟩) (by assumption) ?_
     rotate_left
     ·(intro w' hSw;(try dsimp only at hSw);go_simp;try with_reducible rfl)
     try simp only [ζp]
     refine ζt (i := 12) (oi := ⟨some 41,_,_,_,_,_⟩) (v := ?_) rfl (Or.inl ⟨by rfl,?_⟩) (by assumption) ?_
     rotate_left
     ·(intro w' hSw;(try dsimp only at hSw);go_simp;try with_reducible rfl)
     try simp only [ζp]
     refine wpAnyH_ready (rs := [0,8]) (by kernel_rfl) (by simp) ?_
     refine AllReadyH.cons (o := ⟨some 29,_,_,_,_,_⟩) rfl (fun K hK => ?_) (AllReadyH.cons (o := ⟨some 37,_,_,_,_,_⟩) rfl (fun K hK => ?_) (AllReadyH.nil))
     ·go_simp
      refine hK.out _ _ ?_ (fun hHeld => ?_)
      ·exact ζ (((ζb _ _).alloc (ζn _) _).drew)
      clear hK K
      try simp only [ζp]
      refine wpAnyH_ready (rs := [4,8]) (by kernel_rfl) (by simp) ?_
      refine AllReadyH.cons (o := ⟨some 33,_,_,_,_,_⟩) rfl (fun K hK => ?_) (AllReadyH.cons (o := ⟨some 37,_,_,_,_,_⟩) rfl (fun K hK => ?_) (AllReadyH.nil))
      ·have HE := ζ (Owned.empty (α := PBind) (k := 2) (R := RBind) (B := W3.heap.size) (e := 110) (S := fun _ => False) (w := (W3.alloc (.cells #[] 110)).drew) (g := W3.heap.size) (by exact heap_alloc_new W3 _) (by omega))
       refine step_append_many (B := W3.heap.size) (e := 110) (S := fun _ => False) (by rfl) _ _ 82 (by rfl) RBind.steady RBind.one rowBinds _ [] (by rfl) HE.out _ (o.take k) (by rfl) ((HT.out.take hk).agree RBind.steady (Below.agree (((ζb _ _).alloc (ζn _) _).drew))) (fun _ _ h => h) (by have := HL.out;simp;omega) (by simp <;> omega) ?_
       intro v4 w4 hown4 hg4 hat4
       have HO4 := ζ hown4
       have HB4 := ζ ((((ζb _ _).alloc (ζn _) _).drew).grown hg4 (by simp <;> omega) (fun q hq => (HE.out.row_lt hq).1))
       clear hown4 hg4 hat4
       refine hK.out _ _ ?_ (fun hHeld => ?_)
       ·exact ζ (HB4.out)
       clear hK K
       try simp only [ζp]
       refine wpAnyH_ready (rs := [8]) (by kernel_rfl) (by simp) ?_
       refine AllReadyH.cons (o := ⟨some 37,_,_,_,_,_⟩) rfl (fun K hK => ?_) (AllReadyH.nil)
       go_simp
       refine hK.out _ _ ?_ (fun hHeld => ?_)
       ·exact ζ ((HB4.out.alloc HB4.out.size _))
       clear hK K
       try simp only [ζp]
       refine wpAnyH_ready (rs := [9]) (by kernel_rfl) (by simp) ?_
       refine AllReadyH.cons (o := ⟨some 38,_,_,_,_,_⟩) rfl (fun K hK => ?_) (AllReadyH.nil)
       refine step_append_one (B := W3.heap.size) (e := 110) (S := fun _ => False) (by rfl) _ _ 82 (by rfl) RBind.steady rowBinds _ ([] ++ o.take k) (by rfl) (HO4.out.alloc RBind.steady _) _ 1 #[.string s,.string c] 110 (0,0) ⟨s,c⟩ (by rfl) (heap_alloc_new w4 _) rfl (by simp [Value.oneCell']) rfl (by have := HL.out;simp;omega) (Below.size (HB4.out.alloc HB4.out.size _)) ?_
       intro v7 w7 hown7 hg7 hat7
       have HO7 := ζ hown7
       have HB7 := ζ (Below.grown (HB4.out.alloc HB4.out.size _) hg7 (Below.size (HB4.out.alloc HB4.out.size _)) (fun q hq => (HO4.out.row_lt hq).1))
       clear hown7 hg7 hat7
       refine hK.out _ _ ?_ (fun hHeld => ?_)
       ·exact ζ (HB7.out)
       clear hK K
       try simp only [ζp]
       refine wpAnyH_ready (rs := [13]) (by kernel_rfl) (by simp) ?_
       refine AllReadyH.cons (o := ⟨some 42,_,_,_,_,_⟩) rfl (fun K hK => ?_) (AllReadyH.nil)
       refine step_append_many (B := W3.heap.size) (e := 110) (S := fun _ => False) (by rfl) _ _ 82 (by rfl) RBind.steady RBind.one rowBinds _ ([] ++ o.take k ++ [⟨s,c⟩]) (by rfl) HO7.out _ (o.drop k) (by rfl) (HD.out.agree RBind.steady (Below.agree HB7.out)) (fun _ _ h => h) (by have := HL.out;have := HLD.out;simp;omega) (Below.size HB7.out) ?_
       intro v11 w11 hown11 hg11 hat11
       have HO11 := ζ hown11
       have HB11 := ζ (HB7.out.grown hg11 (Below.size HB7.out) (fun q hq => (HO7.out.row_lt hq).1))
       clear hown11 hg11 hat11
       refine hK.out _ _ ?_ (fun hHeld => ?_)
       ·exact ζ (HB11.out)
       clear hK K
       try simp only [ζp]
       refine ζt (i := 14) (oi := ⟨some 3,_,_,_,_,_⟩) (v := ?_) rfl (Or.inl ⟨by rfl,?_⟩) (by assumption) ?_
       rotate_left
       ·(intro w' hSw;(try dsimp only at hSw);go_simp;try with_reducible rfl)
       try simp only [ζp]
       refine wpAnyH_done (by kernel_rfl) ?_ _
       have HO := ζ (show Owned 2 RBind (w.heap.size + 1) 110 (fun _ => False) w11 v11 (insAt k ⟨s,c⟩ o) by have h := HO11.out;rw [show [] ++ o.take k ++ [(⟨s,c⟩ : PBind)] ++ o.drop k = insAt k ⟨s,c⟩ o by simp [insAt]] at h;exact h.base (by have := HS3.out;omega))
       have HB := ζ (HB3.out.trans (HB11.out.mono HB3.out.size))
       have HR := ζ (HR3.out.below HB11.out (by have := HS3.out;omega) (by have := HS3.out;omega))
       clear HO11 HB11
       go_wp2
       all_goals
        go_roundw
        case rel => exact ⟨_,cnt5,insAt k ⟨s,c⟩ o,by rw [insAt_len];omega,HR,HO,HNV,HNZ,HNG,HB⟩
        case measure => rw [HR.out.left_eq,HR0.out.left_eq];exact hlt
      ·go_simp
       refine hK.out _ _ ?_ (fun hHeld => ?_)
       ·exact ζ ((((ζb _ _).alloc (ζn _) _).alloc (by simp <;> omega) _).drew)
       clear hK K
       try simp only [ζp]
       refine wpAnyH_ready (rs := [4]) (by kernel_rfl) (by simp) ?_
       refine AllReadyH.cons (o := ⟨some 33,_,_,_,_,_⟩) rfl (fun K hK => ?_) (AllReadyH.nil)
       have HE := ζ (Owned.empty (α := PBind) (k := 2) (R := RBind) (B := W3.heap.size) (e := 110) (S := fun _ => False) (w := ((W3.alloc (.cells #[] 110)).alloc (.cells #[.string s,.string c] 110)).drew) (g := W3.heap.size) (by exact (Below.heap_alloc _ _ _ (by simp <;> omega)).trans (heap_alloc_new W3 _)) (by omega))
       refine step_append_many (B := W3.heap.size) (e := 110) (S := fun _ => False) (by rfl) _ _ 82 (by rfl) RBind.steady RBind.one rowBinds _ [] (by rfl) HE.out _ (o.take k) (by rfl) ((HT.out.take hk).agree RBind.steady (Below.agree ((((ζb _ _).alloc (ζn _) _).alloc (by simp <;> omega) _).drew))) (fun _ _ h => h) (by have := HL.out;simp;omega) (by simp <;> omega) ?_
       intro v4 w4 hown4 hg4 hat4
       have HO4 := ζ hown4
       have HB4 := ζ (((((ζb _ _).alloc (ζn _) _).alloc (by simp <;> omega) _).drew).grown hg4 (by simp <;> omega) (fun q hq => (HE.out.row_lt hq).1))
       have HF := ζ (show w4.heap[W3.heap.size + 1]? = some (.cells #[.string s,.string c] 110) from (hg4.block (W3.heap.size + 1) (by simp <;> omega) (by simp [Value.ownBlock])).trans (heap_new_at (by simp)))
       clear hown4 hg4 hat4
       refine hK.out _ _ ?_ (fun hHeld => ?_)
       ·exact ζ (HB4.out)
       clear hK K
       try simp only [ζp]
       refine wpAnyH_ready (rs := [9]) (by kernel_rfl) (by simp) ?_
       refine AllReadyH.cons (o := ⟨some 38,_,_,_,_,_⟩) rfl (fun K hK => ?_) (AllReadyH.nil)
       refine step_append_one (B := W3.heap.size) (e := 110) (S := fun _ => False) (by rfl) _ _ 82 (by rfl) RBind.steady rowBinds _ ([] ++ o.take k) (by rfl) HO4.out _ 1 #[.string s,.string c] 110 (0,0) ⟨s,c⟩ (by rfl) HF.out rfl (by simp [Value.oneCell']) rfl (by have := HL.out;simp;omega) (Below.size HB4.out) ?_
       intro v7 w7 hown7 hg7 hat7
       have HO7 := ζ hown7
       have HB7 := ζ (Below.grown HB4.out hg7 (Below.size HB4.out) (fun q hq => (HO4.out.row_lt hq).1))
       clear hown7 hg7 hat7
       refine hK.out _ _ ?_ (fun hHeld => ?_)
       ·exact ζ (HB7.out)
       clear hK K
       try simp only [ζp]
       refine wpAnyH_ready (rs := [13]) (by kernel_rfl) (by simp) ?_
       refine AllReadyH.cons (o := ⟨some 42,_,_,_,_,_⟩) rfl (fun K hK => ?_) (AllReadyH.nil)
       refine step_append_many (B := W3.heap.size) (e := 110) (S := fun _ => False) (by rfl) _ _ 82 (by rfl) RBind.steady RBind.one rowBinds _ ([] ++ o.take k ++ [⟨s,c⟩]) (by rfl) HO7.out _ (o.drop k) (by rfl) (HD.out.agree RBind.steady (Below.agree HB7.out)) (fun _ _ h => h) (by have := HL.out;have := HLD.out;simp;omega) (Below.size HB7.out) ?_
       intro v11 w11 hown11 hg11 hat11
       have HO11 := ζ hown11
       have HB11 := ζ (HB7.out.grown hg11 (Below.size HB7.out) (fun q hq => (HO7.out.row_lt hq).1))
       clear hown11 hg11 hat11
       refine hK.out _ _ ?_ (fun hHeld => ?_)
       ·exact ζ (HB11.out)
       clear hK K
       try simp only [ζp]
       refine ζt (i := 14) (oi := ⟨some 3,_,_,_,_,_⟩) (v := ?_) rfl (Or.inl ⟨by rfl,?_⟩) (by assumption) ?_
       rotate_left
       ·(intro w' hSw;(try dsimp only at hSw);go_simp;try with_reducible rfl)
       try simp only [ζp]
       refine wpAnyH_done (by kernel_rfl) ?_ _
       have HO := ζ (show Owned 2 RBind (w.heap.size + 1) 110 (fun _ => False) w11 v11 (insAt k ⟨s,c⟩ o) by have h := HO11.out;rw [show [] ++ o.take k ++ [(⟨s,c⟩ : PBind)] ++ o.drop k = insAt k ⟨s,c⟩ o by simp [insAt]] at h;exact h.base (by have := HS3.out;omega))
       have HB := ζ (HB3.out.trans (HB11.out.mono HB3.out.size))
       have HR := ζ (HR3.out.below HB11.out (by have := HS3.out;omega) (by have := HS3.out;omega))
       clear HO11 HB11
       go_wp2
       all_goals
        go_roundw
        case rel => exact ⟨_,cnt5,insAt k ⟨s,c⟩ o,by rw [insAt_len];omega,HR,HO,HNV,HNZ,HNG,HB⟩
        case measure => rw [HR.out.left_eq,HR0.out.left_eq];exact hlt
     ·go_simp
      refine hK.out _ _ ?_ (fun hHeld => ?_)
      ·exact ζ (((ζb _ _).alloc (ζn _) _).drew)
      clear hK K
      try simp only [ζp]
      refine wpAnyH_ready (rs := [0]) (by kernel_rfl) (by simp) ?_
      refine AllReadyH.cons (o := ⟨some 29,_,_,_,_,_⟩) rfl (fun K hK => ?_) (AllReadyH.nil)
      go_simp
      refine hK.out _ _ ?_ (fun hHeld => ?_)
      ·exact ζ ((((ζb _ _).alloc (ζn _) _).alloc (by simp <;> omega) _).drew)
      clear hK K
      try simp only [ζp]
      refine wpAnyH_ready (rs := [4]) (by kernel_rfl) (by simp) ?_
      refine AllReadyH.cons (o := ⟨some 33,_,_,_,_,_⟩) rfl (fun K hK => ?_) (AllReadyH.nil)
      have HE := ζ (Owned.empty (α := PBind) (k := 2) (R := RBind) (B := W3.heap.size) (e := 110) (S := fun _ => False) (w := ((W3.alloc (.cells #[.string s,.string c] 110)).alloc (.cells #[] 110)).drew) (g := W3.heap.size + 1) (by exact heap_new_at (by simp)) (by omega))
      refine step_append_many (B := W3.heap.size) (e := 110) (S := fun _ => False) (by rfl) _ _ 82 (by rfl) RBind.steady RBind.one rowBinds _ [] (by rfl) HE.out _ (o.take k) (by rfl) ((HT.out.take hk).agree RBind.steady (Below.agree ((((ζb _ _).alloc (ζn _) _).alloc (by simp <;> omega) _).drew))) (fun _ _ h => h) (by have := HL.out;simp;omega) (by simp <;> omega) ?_
      intro v4 w4 hown4 hg4 hat4
      have HO4 := ζ hown4
      have HB4 := ζ (((((ζb _ _).alloc (ζn _) _).alloc (by simp <;> omega) _).drew).grown hg4 (by simp <;> omega) (fun q hq => (HE.out.row_lt hq).1))
      have HF := ζ (show w4.heap[W3.heap.size]? = some (.cells #[.string s,.string c] 110) from (hg4.block W3.heap.size (by simp <;> omega) (by simp [Value.ownBlock])).trans ((Below.heap_alloc _ _ _ (by simp <;> omega)).trans (heap_alloc_new W3 _)))
      clear hown4 hg4 hat4
      refine hK.out _ _ ?_ (fun hHeld => ?_)
      ·exact ζ (HB4.out)
      clear hK K
      try simp only [ζp]
      refine wpAnyH_ready (rs := [9]) (by kernel_rfl) (by simp) ?_
      refine AllReadyH.cons (o := ⟨some 38,_,_,_,_,_⟩) rfl (fun K hK => ?_) (AllReadyH.nil)
      refine step_append_one (B := W3.heap.size) (e := 110) (S := fun _ => False) (by rfl) _ _ 82 (by rfl) RBind.steady rowBinds _ ([] ++ o.take k) (by rfl) HO4.out _ 1 #[.string s,.string c] 110 (0,0) ⟨s,c⟩ (by rfl) HF.out rfl (by simp [Value.oneCell']) rfl (by have := HL.out;simp;omega) (Below.size HB4.out) ?_
      intro v7 w7 hown7 hg7 hat7
      have HO7 := ζ hown7
      have HB7 := ζ (Below.grown HB4.out hg7 (Below.size HB4.out) (fun q hq => (HO4.out.row_lt hq).1))
      clear hown7 hg7 hat7
      refine hK.out _ _ ?_ (fun hHeld => ?_)
      ·exact ζ (HB7.out)
      clear hK K
      try simp only [ζp]
      refine wpAnyH_ready (rs := [13]) (by kernel_rfl) (by simp) ?_
      refine AllReadyH.cons (o := ⟨some 42,_,_,_,_,_⟩) rfl (fun K hK => ?_) (AllReadyH.nil)
      refine step_append_many (B := W3.heap.size) (e := 110) (S := fun _ => False) (by rfl) _ _ 82 (by rfl) RBind.steady RBind.one rowBinds _ ([] ++ o.take k ++ [⟨s,c⟩]) (by rfl) HO7.out _ (o.drop k) (by rfl) (HD.out.agree RBind.steady (Below.agree HB7.out)) (fun _ _ h => h) (by have := HL.out;have := HLD.out;simp;omega) (Below.size HB7.out) ?_
      intro v11 w11 hown11 hg11 hat11
      have HO11 := ζ hown11
      have HB11 := ζ (HB7.out.grown hg11 (Below.size HB7.out) (fun q hq => (HO7.out.row_lt hq).1))
      clear hown11 hg11 hat11
      refine hK.out _ _ ?_ (fun hHeld => ?_)
      ·exact ζ (HB11.out)
      clear hK K
      try simp only [ζp]
      refine ζt (i := 14) (oi := ⟨some 3,_,_,_,_,_⟩) (v := ?_) rfl (Or.inl ⟨by rfl,?_⟩) (by assumption) ?_
      rotate_left
      ·(intro w' hSw;(try dsimp only at hSw);go_simp;try with_reducible rfl)
      try simp only [ζp]
      refine wpAnyH_done (by kernel_rfl) ?_ _
      have HO := ζ (show Owned 2 RBind (w.heap.size + 1) 110 (fun _ => False) w11 v11 (insAt k ⟨s,c⟩ o) by have h := HO11.out;rw [show [] ++ o.take k ++ [(⟨s,c⟩ : PBind)] ++ o.drop k = insAt k ⟨s,c⟩ o by simp [insAt]] at h;exact h.base (by have := HS3.out;omega))
      have HB := ζ (HB3.out.trans (HB11.out.mono HB3.out.size))
      have HR := ζ (HR3.out.below HB11.out (by have := HS3.out;omega) (by have := HS3.out;omega))
      clear HO11 HB11
      go_wp2
      all_goals
       go_roundw
       case rel => exact ⟨_,cnt5,insAt k ⟨s,c⟩ o,by rw [insAt_len];omega,HR,HO,HNV,HNZ,HNG,HB⟩
       case measure => rw [HR.out.left_eq,HR0.out.left_eq];exact hlt
    ·have HNV := ζ (HFIN.out (fun z hz => by rw [hl,List.getElem?_eq_none (ζn _)] at hz;cases hz))
     have HNZ := ζ (show ∀ z ∈ insAt k ⟨s,c⟩ o,z.var.size ≤ maxLen from fun z hz => by rcases mem_insAt.1 hz with rfl | hz;exact hs5;exact HZ.out z hz)
     have HNG := ζ (show ∀ t : Str,t.size ≤ maxLen → getB t (insAt k ⟨s,c⟩ o) = taken (fun v => getB v l) (fun z => left z && !z.sameKey (keyL s)) t from fun t ht => by rw [getB_insAt HV.out HNV.out HNS.out,← HTK.out];dsimp only;rw [HG.out t ht])
     clear HFIN
     subst hl
     have i6 : ¬ (o.length : Int) < (o.length : Int) := by omega
     go_wp2_with fail
     have HT := ζ (HO3.out.read RBind.steady)
     have HD := ζ (show RdBinds _ W3 (.slice (if oc = o.length then oa else Option.map (fun x => x.add (o.length * 2)) oa) 0 (oc - o.length)) (o.drop o.length) by have := HT.out.drop hk;rwa [Nat.sub_self] at this)
     have HL := ζ (show (o.take o.length).length ≤ o.length by rw [List.length_take];exact Nat.min_le_right _ _)
     have HLD := ζ (show (o.drop o.length).length ≤ o.length by rw [List.length_drop];exact Nat.sub_le _ _)
     have i1 : (0 : Int) ≤ (o.length : Int) := by omega
     have i2 : (o.length : Int) ≤ (oc : Int) := by omega
     have i3 : (o.length : Int) ≤ (o.length : Int) := by omega
     refine wp_region_held_drew (S := (fun w' => Hid (Below W3.heap.size W3 w'))) (by kernel_rfl) ?_ (fun hHeld => ?_)
     ·exact ζ ((ζb _ _).drew)
     refine ζt (i := 1) (oi := ⟨some 30,_,_,_,_,_⟩) (v := ?_) rfl (Or.inl ⟨by rfl,?_⟩) (by assumption) ?_
     rotate_left
     ·(intro w' hSw;(try dsimp only at hSw);go_simp;try with_reducible rfl)
     try simp only [ζp]
     refine ζt (i := 2) (oi := ⟨some 31,_,_,_,_,_⟩) (v := ?_) rfl (Or.inl ⟨by rfl,?_⟩) (by assumption) ?_
     rotate_left
     ·(intro w' hSw;(try dsimp only at hSw);go_simp;try with_reducible rfl)
     try simp only [ζp]
     refine ζt (i := 3) (oi := ⟨some 32,_,_,_,_,_⟩) (v := ?_) rfl (Or.inl ⟨by rfl,?_⟩) (by assumption) ?_
     rotate_left
     ·(intro w' hSw;(try dsimp only at hSw);go_simp;try with_reducible rfl)
     try simp only [ζp]
     refine ζt (i := 5) (oi := ⟨some 34,_,_,_,_,_⟩) (v := ?_) rfl (Or.inl ⟨by rfl,?_⟩) (by assumption) ?_
     rotate_left
     ·(intro w' hSw;(try dsimp only at hSw);go_simp;try with_reducible rfl)
     try simp only [ζp]
     refine ζt (i := 6) (oi := ⟨some 35,_,_,_,_,_⟩) (v := ?_) rfl (Or.inl ⟨by rfl,?_⟩) (by assumption) ?_
     rotate_left
     ·(intro w' hSw;(try dsimp only at hSw);go_simp;try with_reducible rfl)
     try simp only [ζp]
     refine ζt (i := 7) (oi := ⟨some 36,_,_,_,_,_⟩) (v := ?_) rfl (Or.inl ⟨by rfl,?_⟩) (by assumption) ?_
     rotate_left
     ·(intro w' hSw;(try dsimp only at hSw);go_simp;try with_reducible rfl)
     try simp only [ζp]
     refine ζt (i := 10) (oi := ⟨some 39,_,_,_,_,_⟩) (v := ?_) rfl (Or.inl ⟨by rfl,?_⟩) (by assumption) ?_
     rotate_left
     ·(intro w' hSw;(try dsimp only at hSw);go_simp;try with_reducible rfl)
     try simp only [ζp]
     refine ζt (i := 11) (oi := ⟨some 40,_,_,_,_,_⟩) (v := ?_) rfl (Or.inl ⟨by rfl,?_⟩) (by assumption) ?_
     rotate_left
     ·(intro w' hSw;(try dsimp only at hSw);go_simp;try with_reducible rfl)
     try simp only [ζp]
     refine ζt (i := 12) (oi := ⟨some 41,_,_,_,_,_⟩) (v := ?_) rfl (Or.inl ⟨by rfl,?_⟩) (by assumption) ?_
     rotate_left
     ·(intro w' hSw;(try dsimp only at hSw);go_simp;try with_reducible rfl)
     try simp only [ζp]
     refine wpAnyH_ready (rs := [0,8]) (by kernel_rfl) (by simp) ?_
     refine AllReadyH.cons (o := ⟨some 29,_,_,_,_,_⟩) rfl (fun K hK => ?_) (AllReadyH.cons (o := ⟨some 37,_,_,_,_,_⟩) rfl (fun K hK => ?_) (AllReadyH.nil))
     ·go_simp
      refine hK.out _ _ ?_ (fun hHeld => ?_)
      ·exact ζ (((ζb _ _).alloc (ζn _) _).drew)
      clear hK K
      try simp only [ζp]
      refine wpAnyH_ready (rs := [4,8]) (by kernel_rfl) (by simp) ?_
      refine AllReadyH.cons (o := ⟨some 33,_,_,_,_,_⟩) rfl (fun K hK => ?_) (AllReadyH.cons (o := ⟨some 37,_,_,_,_,_⟩) rfl (fun K hK => ?_) (AllReadyH.nil))
      ·have HE := ζ (Owned.empty (α := PBind) (k := 2) (R := RBind) (B := W3.heap.size) (e := 110) (S := fun _ => False) (w := (W3.alloc (.cells #[] 110)).drew) (g := W3.heap.size) (by exact heap_alloc_new W3 _) (by omega))
       refine step_append_many (B := W3.heap.size) (e := 110) (S := fun _ => False) (by rfl) _ _ 82 (by rfl) RBind.steady RBind.one rowBinds _ [] (by rfl) HE.out _ (o.take o.length) (by rfl) ((HT.out.take hk).agree RBind.steady (Below.agree (((ζb _ _).alloc (ζn _) _).drew))) (fun _ _ h => h) (by have := HL.out;simp;omega) (by simp <;> omega) ?_
       intro v4 w4 hown4 hg4 hat4
       have HO4 := ζ hown4
       have HB4 := ζ ((((ζb _ _).alloc (ζn _) _).drew).grown hg4 (by simp <;> omega) (fun q hq => (HE.out.row_lt hq).1))
       clear hown4 hg4 hat4
       refine hK.out _ _ ?_ (fun hHeld => ?_)
       ·exact ζ (HB4.out)
       clear hK K
       try simp only [ζp]
       refine wpAnyH_ready (rs := [8]) (by kernel_rfl) (by simp) ?_
       refine AllReadyH.cons (o := ⟨some 37,_,_,_,_,_⟩) rfl (fun K hK => ?_) (AllReadyH.nil)
       go_simp
       refine hK.out _ _ ?_ (fun hHeld => ?_)
       ·exact ζ ((HB4.out.alloc HB4.out.size _))
       clear hK K
       try simp only [ζp]
       refine wpAnyH_ready (rs := [9]) (by kernel_rfl) (by simp) ?_
       refine AllReadyH.cons (o := ⟨some 38,_,_,_,_,_⟩) rfl (fun K hK => ?_) (AllReadyH.nil)
       refine step_append_one (B := W3.heap.size) (e := 110) (S := fun _ => False) (by rfl) _ _ 82 (by rfl) RBind.steady rowBinds _ ([] ++ o.take o.length) (by rfl) (HO4.out.alloc RBind.steady _) _ 1 #[.string s,.string c] 110 (0,0) ⟨s,c⟩ (by rfl) (heap_alloc_new w4 _) rfl (by simp [Value.oneCell']) rfl (by have := HL.out;simp;omega) (Below.size (HB4.out.alloc HB4.out.size _)) ?_
       intro v7 w7 hown7 hg7 hat7
       have HO7 := ζ hown7
       have HB7 := ζ (Below.grown (HB4.out.alloc HB4.out.size _) hg7 (Below.size (HB4.out.alloc HB4.out.size _)) (fun q hq => (HO4.out.row_lt hq).1))
       clear hown7 hg7 hat7
       refine hK.out _ _ ?_ (fun hHeld => ?_)
       ·exact ζ (HB7.out)
       clear hK K
       try simp only [ζp]
       refine wpAnyH_ready (rs := [13]) (by kernel_rfl) (by simp) ?_
       refine AllReadyH.cons (o := ⟨some 42,_,_,_,_,_⟩) rfl (fun K hK => ?_) (AllReadyH.nil)
       refine step_append_many (B := W3.heap.size) (e := 110) (S := fun _ => False) (by rfl) _ _ 82 (by rfl) RBind.steady RBind.one rowBinds _ ([] ++ o.take o.length ++ [⟨s,c⟩]) (by rfl) HO7.out _ (o.drop o.length) (by rfl) (HD.out.agree RBind.steady (Below.agree HB7.out)) (fun _ _ h => h) (by have := HL.out;have := HLD.out;simp;omega) (Below.size HB7.out) ?_
       intro v11 w11 hown11 hg11 hat11
       have HO11 := ζ hown11
       have HB11 := ζ (HB7.out.grown hg11 (Below.size HB7.out) (fun q hq => (HO7.out.row_lt hq).1))
       clear hown11 hg11 hat11
       refine hK.out _ _ ?_ (fun hHeld => ?_)
       ·exact ζ (HB11.out)
       clear hK K
       try simp only [ζp]
       refine ζt (i := 14) (oi := ⟨some 3,_,_,_,_,_⟩) (v := ?_) rfl (Or.inl ⟨by rfl,?_⟩) (by assumption) ?_
       rotate_left
       ·(intro w' hSw;(try dsimp only at hSw);go_simp;try with_reducible rfl)
       try simp only [ζp]
       refine wpAnyH_done (by kernel_rfl) ?_ _
       have HO := ζ (show Owned 2 RBind (w.heap.size + 1) 110 (fun _ => False) w11 v11 (insAt o.length ⟨s,c⟩ o) by have h := HO11.out;rw [show [] ++ o.take o.length ++ [(⟨s,c⟩ : PBind)] ++ o.drop o.length = insAt o.length ⟨s,c⟩ o by simp [insAt]] at h;exact h.base (by have := HS3.out;omega))
       have HB := ζ (HB3.out.trans (HB11.out.mono HB3.out.size))
       have HR := ζ (HR3.out.below HB11.out (by have := HS3.out;omega) (by have := HS3.out;omega))
       clear HO11 HB11
       go_wp2
       all_goals
        go_roundw
        case rel => exact ⟨_,cnt5,insAt o.length ⟨s,c⟩ o,by rw [insAt_len];omega,HR,HO,HNV,HNZ,HNG,HB⟩
        case measure => rw [HR.out.left_eq,HR0.out.left_eq];exact hlt
      ·go_simp
       refine hK.out _ _ ?_ (fun hHeld => ?_)
       ·exact ζ ((((ζb _ _).alloc (ζn _) _).alloc (by simp <;> omega) _).drew)
       clear hK K
       try simp only [ζp]
       refine wpAnyH_ready (rs := [4]) (by kernel_rfl) (by simp) ?_
       refine AllReadyH.cons (o := ⟨some 33,_,_,_,_,_⟩) rfl (fun K hK => ?_) (AllReadyH.nil)
       have HE := ζ (Owned.empty (α := PBind) (k := 2) (R := RBind) (B := W3.heap.size) (e := 110) (S := fun _ => False) (w := ((W3.alloc (.cells #[] 110)).alloc (.cells #[.string s,.string c] 110)).drew) (g := W3.heap.size) (by exact (Below.heap_alloc _ _ _ (by simp <;> omega)).trans (heap_alloc_new W3 _)) (by omega))
       refine step_append_many (B := W3.heap.size) (e := 110) (S := fun _ => False) (by rfl) _ _ 82 (by rfl) RBind.steady RBind.one rowBinds _ [] (by rfl) HE.out _ (o.take o.length) (by rfl) ((HT.out.take hk).agree RBind.steady (Below.agree ((((ζb _ _).alloc (ζn _) _).alloc (by simp <;> omega) _).drew))) (fun _ _ h => h) (by have := HL.out;simp;omega) (by simp <;> omega) ?_
       intro v4 w4 hown4 hg4 hat4
       have HO4 := ζ hown4
       have HB4 := ζ (((((ζb _ _).alloc (ζn _) _).alloc (by simp <;> omega) _).drew).grown hg4 (by simp <;> omega) (fun q hq => (HE.out.row_lt hq).1))
       have HF := ζ (show w4.heap[W3.heap.size + 1]? = some (.cells #[.string s,.string c] 110) from (hg4.block (W3.heap.size + 1) (by simp <;> omega) (by simp [Value.ownBlock])).trans (heap_new_at (by simp)))
       clear hown4 hg4 hat4
       refine hK.out _ _ ?_ (fun hHeld => ?_)
       ·exact ζ (HB4.out)
       clear hK K
       try simp only [ζp]
       refine wpAnyH_ready (rs := [9]) (by kernel_rfl) (by simp) ?_
       refine AllReadyH.cons (o := ⟨some 38,_,_,_,_,_⟩) rfl (fun K hK => ?_) (AllReadyH.nil)
       refine step_append_one (B := W3.heap.size) (e := 110) (S := fun _ => False) (by rfl) _ _ 82 (by rfl) RBind.steady rowBinds _ ([] ++ o.take o.length) (by rfl) HO4.out _ 1 #[.string s,.string c] 110 (0,0) ⟨s,c⟩ (by rfl) HF.out rfl (by simp [Value.oneCell']) rfl (by have := HL.out;simp;omega) (Below.size HB4.out) ?_
       intro v7 w7 hown7 hg7 hat7
       have HO7 := ζ hown7
       have HB7 := ζ (Below.grown HB4.out hg7 (Below.size HB4.out) (fun q hq => (HO4.out.row_lt hq).1))
       clear hown7 hg7 hat7
       refine hK.out _ _ ?_ (fun hHeld => ?_)
       ·exact ζ (HB7.out)
       clear hK K
       try simp only [ζp]
       refine wpAnyH_ready (rs := [13]) (by kernel_rfl) (by simp) ?_
       refine AllReadyH.cons (o := ⟨some 42,_,_,_,_,_⟩) rfl (fun K hK => ?_) (AllReadyH.nil)
       refine step_append_many (B := W3.heap.size) (e := 110) (S := fun _ => False) (by rfl) _ _ 82 (by rfl) RBind.steady RBind.one rowBinds _ ([] ++ o.take o.length ++ [⟨s,c⟩]) (by rfl) HO7.out _ (o.drop o.length) (by rfl) (HD.out.agree RBind.steady (Below.agree HB7.out)) (fun _ _ h => h) (by have := HL.out;have := HLD.out;simp;omega) (Below.size HB7.out) ?_
       intro v11 w11 hown11 hg11 hat11
       have HO11 := ζ hown11
       have HB11 := ζ (HB7.out.grown hg11 (Below.size HB7.out) (fun q hq => (HO7.out.row_lt hq).1))
       clear hown11 hg11 hat11
       refine hK.out _ _ ?_ (fun hHeld => ?_)
       ·exact ζ (HB11.out)
       clear hK K
       try simp only [ζp]
       refine ζt (i := 14) (oi := ⟨some 3,_,_,_,_,_⟩) (v := ?_) rfl (Or.inl ⟨by rfl,?_⟩) (by assumption) ?_
       rotate_left
       ·(intro w' hSw;(try dsimp only at hSw);go_simp;try with_reducible rfl)
       try simp only [ζp]
       refine wpAnyH_done (by kernel_rfl) ?_ _
       have HO := ζ (show Owned 2 RBind (w.heap.size + 1) 110 (fun _ => False) w11 v11 (insAt o.length ⟨s,c⟩ o) by have h := HO11.out;rw [show [] ++ o.take o.length ++ [(⟨s,c⟩ : PBind)] ++ o.drop o.length = insAt o.length ⟨s,c⟩ o by simp [insAt]] at h;exact h.base (by have := HS3.out;omega))
       have HB := ζ (HB3.out.trans (HB11.out.mono HB3.out.size))
       have HR := ζ (HR3.out.below HB11.out (by have := HS3.out;omega) (by have := HS3.out;omega))
       clear HO11 HB11
       go_wp2
       all_goals
        go_roundw
        case rel => exact ⟨_,cnt5,insAt o.length ⟨s,c⟩ o,by rw [insAt_len];omega,HR,HO,HNV,HNZ,HNG,HB⟩
        case measure => rw [HR.out.left_eq,HR0.out.left_eq];exact hlt
     ·go_simp
      refine hK.out _ _ ?_ (fun hHeld => ?_)
      ·exact ζ (((ζb _ _).alloc (ζn _) _).drew)
      clear hK K
      try simp only [ζp]
      refine wpAnyH_ready (rs := [0]) (by kernel_rfl) (by simp) ?_
      refine AllReadyH.cons (o := ⟨some 29,_,_,_,_,_⟩) rfl (fun K hK => ?_) (AllReadyH.nil)
      go_simp
      refine hK.out _ _ ?_ (fun hHeld => ?_)
      ·exact ζ ((((ζb _ _).alloc (ζn _) _).alloc (by simp <;> omega) _).drew)
      clear hK K
      try simp only [ζp]
      refine wpAnyH_ready (rs := [4]) (by kernel_rfl) (by simp) ?_
      refine AllReadyH.cons (o := ⟨some 33,_,_,_,_,_⟩) rfl (fun K hK => ?_) (AllReadyH.nil)
      have HE := ζ (Owned.empty (α := PBind) (k := 2) (R := RBind) (B := W3.heap.size) (e := 110) (S := fun _ => False) (w := ((W3.alloc (.cells #[.string s,.string c] 110)).alloc (.cells #[] 110)).drew) (g := W3.heap.size + 1) (by exact heap_new_at (by simp)) (by omega))
      refine step_append_many (B := W3.heap.size) (e := 110) (S := fun _ => False) (by rfl) _ _ 82 (by rfl) RBind.steady RBind.one rowBinds _ [] (by rfl) HE.out _ (o.take o.length) (by rfl) ((HT.out.take hk).agree RBind.steady (Below.agree ((((ζb _ _).alloc (ζn _) _).alloc (by simp <;> omega) _).drew))) (fun _ _ h => h) (by have := HL.out;simp;omega) (by simp <;> omega) ?_
      intro v4 w4 hown4 hg4 hat4
      have HO4 := ζ hown4
      have HB4 := ζ (((((ζb _ _).alloc (ζn _) _).alloc (by simp <;> omega) _).drew).grown hg4 (by simp <;> omega) (fun q hq => (HE.out.row_lt hq).1))
      have HF := ζ (show w4.heap[W3.heap.size]? = some (.cells #[.string s,.string c] 110) from (hg4.block W3.heap.size (by simp <;> omega) (by simp [Value.ownBlock])).trans ((Below.heap_alloc _ _ _ (by simp <;> omega)).trans (heap_alloc_new W3 _)))
      clear hown4 hg4 hat4
      refine hK.out _ _ ?_ (fun hHeld => ?_)
      ·exact ζ (HB4.out)
      clear hK K
      try simp only [ζp]
      refine wpAnyH_ready (rs := [9]) (by kernel_rfl) (by simp) ?_
      refine AllReadyH.cons (o := ⟨some 38,_,_,_,_,_⟩) rfl (fun K hK => ?_) (AllReadyH.nil)
      refine step_append_one (B := W3.heap.size) (e := 110) (S := fun _ => False) (by rfl) _ _ 82 (by rfl) RBind.steady rowBinds _ ([] ++ o.take o.length) (by rfl) HO4.out _ 1 #[.string s,.string c] 110 (0,0) ⟨s,c⟩ (by rfl) HF.out rfl (by simp [Value.oneCell']) rfl (by have := HL.out;simp;omega) (Below.size HB4.out) ?_
      intro v7 w7 hown7 hg7 hat7
      have HO7 := ζ hown7
      have HB7 := ζ (Below.grown HB4.out hg7 (Below.size HB4.out) (fun q hq => (HO4.out.row_lt hq).1))
      clear hown7 hg7 hat7
      refine hK.out _ _ ?_ (fun hHeld => ?_)
      ·exact ζ (HB7.out)
      clear hK K
      try simp only [ζp]
      refine wpAnyH_ready (rs := [13]) (by kernel_rfl) (by simp) ?_
      refine AllReadyH.cons (o := ⟨some 42,_,_,_,_,_⟩) rfl (fun K hK => ?_) (AllReadyH.nil)
      refine step_append_many (B := W3.heap.size) (e := 110) (S := fun _ => False) (by rfl) _ _ 82 (by rfl) RBind.steady RBind.one rowBinds _ ([] ++ o.take o.length ++ [⟨s,c⟩]) (by rfl) HO7.out _ (o.drop o.length) (by rfl) (HD.out.agree RBind.steady (Below.agree HB7.out)) (fun _ _ h => h) (by have := HL.out;have := HLD.out;simp;omega) (Below.size HB7.out) ?_
      intro v11 w11 hown11 hg11 hat11
      have HO11 := ζ hown11
      have HB11 := ζ (HB7.out.grown hg11 (Below.size HB7.out) (fun q hq => (HO7.out.row_lt hq).1))
      clear hown11 hg11 hat11
      refine hK.out _ _ ?_ (fun hHeld => ?_)
      ·exact ζ (HB11.out)
      clear hK K
      try simp only [ζp]
      refine ζt (i := 14) (oi := ⟨some 3,_,_,_,_,_⟩) (v := ?_) rfl (Or.inl ⟨by rfl,?_⟩) (by assumption) ?_
      rotate_left
      ·(intro w' hSw;(try dsimp only at hSw);go_simp;try with_reducible rfl)
      try simp only [ζp]
      refine wpAnyH_done (by kernel_rfl) ?_ _
      have HO := ζ (show Owned 2 RBind (w.heap.size + 1) 110 (fun _ => False) w11 v11 (insAt o.length ⟨s,c⟩ o) by have h := HO11.out;rw [show [] ++ o.take o.length ++ [(⟨s,c⟩ : PBind)] ++ o.drop o.length = insAt o.length ⟨s,c⟩ o by simp [insAt]] at h;exact h.base (by have := HS3.out;omega))
      have HB := ζ (HB3.out.trans (HB11.out.mono HB3.out.size))
      have HR := ζ (HR3.out.below HB11.out (by have := HS3.out;omega) (by have := HS3.out;omega))
      clear HO11 HB11
      go_wp2
      all_goals
       go_roundw
       case rel => exact ⟨_,cnt5,insAt o.length ⟨s,c⟩ o,by rw [insAt_len];omega,HR,HO,HNV,HNZ,HNG,HB⟩
       case measure => rw [HR.out.left_eq,HR0.out.left_eq];exact hlt
end
section
open Go.RowKit
theorem cmpStr_neg (x y : Str) : decide (cmpStr x y < 0) = strLt x y := by
 unfold cmpStr
 cases h : strLt x y
 ·rw [if_neg (by simp)];split <;> simp
 ·rw [if_pos rfl];simp
theorem cmpBind_neg (x y : PBind) : decide (cmpBind x y < 0) = (strLt x.var y.var || (decide (x.var = y.var) && strLt x.name y.name)) := by
 rw [cmpBind_eq]
 by_cases h : x.var = y.var
 ·rw [h,if_neg (by simp [cmpStr3.self]),cmpStr_neg,strLt_irrefl];simp
 ·rw [if_pos (cmpStr3.ne_zero h),cmpStr_neg];simp [h]
set_option maxRecDepth 100000 in
set_option maxHeartbeats 0 in
theorem lessBindsRef {S T : Nat → Prop} (va vb : Value) (a b : Binds) (w : World) (ha : RdBinds S w va a) (hb : RdBinds T w vb b) (n1 : a.length ≤ 1073741824) (_n2 : b.length ≤ 1073741824) :
 Calls Tryz.prog 96 #[va,vb] w fun e w' => e = .returned (.bool (decide (cmpBinds a b < 0))) ∧ Fresh w w' := by
 obtain ⟨aa,ac,rfl,-,-,-⟩ := id ha.form
 obtain ⟨ba,bc,rfl,-,-,-⟩ := id hb.form
 have HA := ζ ha
 have HB := ζ hb
 clear ha hb
 go_enter Tryz.func96,Tryz.ntmps96
 go_wp2
 go_loopw [8,5] (fun i _ wr => ∃ k : Nat,k ≤ a.length ∧ k ≤ b.length ∧ i = .int .i64 k ∧ Hid (cmpBinds a b = cmpLst cmpBind (a.drop k) (b.drop k)) ∧ Hid (Fresh w wr)) (fun i _ _ => a.length - (intOf i).toNat)
 case atStart => exact ⟨0,Nat.zero_le _,Nat.zero_le _,rfl,ζ rfl,ζ (Fresh.refl _)⟩
 case round =>
  obtain ⟨k,hk,hk2,rfl,HR,HF⟩ := hrel
  by_cases hlt : k < a.length
  ·obtain ⟨x,hx⟩ : ∃ x,a[k]? = some x := ⟨_,ζe hlt⟩
   obtain ⟨b1,o1,rfl,-,-,d0,d1⟩ := RdBinds.at (HA.out.up HF.out.below) hx
   by_cases hlt2 : k < b.length
   ·obtain ⟨y,hy⟩ : ∃ y,b[k]? = some y := ⟨_,ζe hlt2⟩
    obtain ⟨b2,o2,rfl,-,hbb,f0,f1⟩ := RdBinds.at (HB.out.up HF.out.below) hy
    have HD := ζ (show cmpBinds a b = if cmpBind x y ≠ 0 then cmpBind x y else cmpLst cmpBind (a.drop (k + 1)) (b.drop (k + 1)) by rw [HR.out,drop_cons hx,drop_cons hy];rfl)
    have i1 : ¬ (b.length : Int) ≤ (k : Int) := by omega
    have j0 : (0 : Int) ≤ (k : Int) := by omega
    have j1 : (k : Int) < (b.length : Int) := by omega
    have j3 : (k : Int) < (a.length : Int) := by omega
    have j2 : IntKind.i64.wrap (k : Int) = k := by rw [IntKind.wrap_i64];omega
    clear hx hy HR
    by_cases hxy : x = y
    ·have HD1 := ζ (show cmpBinds a b = cmpLst cmpBind (a.drop (k + 1)) (b.drop (k + 1)) by rw [HD.out,if_neg (by simp [hxy,cmpBind3.self])])
     have hne := neqBind_same x
     subst hxy
     clear HD
     go_wp2_with fail
     go_quiet (fail)
     go_wp2
     go_roundw
     case rel => exact ⟨k + 1,by omega,by omega,by go_num,HD1,ζ (HF.out.drewN _)⟩
     case measure => simp [intOf];omega
    ·have HE := ζ (show decide (cmpBinds a b < 0) = (strLt x.var y.var || (decide (x.var = y.var) && strLt x.name y.name)) by
      rw [← cmpBind_neg,HD.out,if_pos (cmpBind3.ne_zero hxy)])
     have hne := neqBind_other hxy
     clear HD hxy
     have g1 : Op.bytesLess x.var.toList y.var.toList = strLt x.var y.var := rfl
     have g2 : (x.var.toList == y.var.toList) = decide (x.var = y.var) := beq_toList _ _
     have g3 : Op.bytesLess x.name.toList y.name.toList = strLt x.name y.name := rfl
     generalize strLt x.var y.var = p1 at *
     generalize decide (x.var = y.var) = p2 at *
     generalize strLt x.name y.name = p3 at *
     cases p1 <;> cases p2
     all_goals
      go_wp2_with fail
      go_quiet (fail)
      go_wp2_with fail
      go_quiet (fail)
      go_wp2
      go_ret
      exact ⟨by rw [HE.out];simp,(HF.out.drewN _).drewN _⟩
   ·have i1 : (b.length : Int) ≤ (k : Int) := by omega
    have HE := ζ (show decide (cmpBinds a b < 0) = false by rw [HR.out,drop_cons hx,drop_end (by omega : b.length ≤ k)];rfl)
    clear hx HR
    go_wp2
    go_ret
    exact ⟨ret_bool HE.out.symm,HF.out⟩
  ·by_cases hlt2 : a.length < b.length
   ·have i1 : (a.length : Int) < (b.length : Int) := by omega
    obtain ⟨y,hy⟩ : ∃ y,b[k]? = some y := ⟨_,ζe (by omega)⟩
    have HE := ζ (show decide (cmpBinds a b < 0) = true by rw [HR.out,drop_end (by omega : a.length ≤ k),drop_cons hy];rfl)
    clear hy HR
    go_wp2
    go_ret
    exact ⟨by rw [HE.out];simp,HF.out⟩
   ·have i1 : ¬ (a.length : Int) < (b.length : Int) := by omega
    have HE := ζ (show decide (cmpBinds a b < 0) = false by rw [HR.out,drop_end (by omega : a.length ≤ k),drop_end (by omega : b.length ≤ k)];rfl)
    clear HR
    go_wp2
    go_ret
    exact ⟨by rw [HE.out];simp,HF.out⟩
theorem RdBindss.at1 {S : Nat → Prop} {w : World} {a : Option Addr} {n cap : Nat} {l : List Binds} (h : RdBindss S w (.slice a n cap) l) {i : Nat} {x : Binds} (hx : l[i]? = some x) :
 ∃ b off v,a = some ⟨b,off,none⟩ ∧ S b ∧ b < w.heap.size ∧ w.cell? ⟨b,off + i,none⟩ = some v ∧ RdBinds S w v x := by
 obtain ⟨a',cap',hv,_,_,_,h3⟩ := h
 obtain ⟨b,off,cs,ha,hS,hb,hk,hc,v,hr,hq⟩ := h3 i x hx
 injection hv with e1 e2 e3
 subst e1
 subst hr
 exact ⟨b,off,v,ha,hS,hb,by simpa using hc 0 _ rfl,hq⟩
end
end Go.Proofs.YtdngkcieckejoaaGreat
