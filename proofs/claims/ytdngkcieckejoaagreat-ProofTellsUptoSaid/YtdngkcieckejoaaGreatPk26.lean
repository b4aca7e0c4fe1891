/-
  THE WALK OF cororef4.Merge: lists in order, each once, by halves.
-/
import Derived.Test.YtdngkcieckejoaaGreatPk4
import Derived.Test.YtdngkcieckejoaaGreatPk5
import Derived.Test.YtdngkcieckejoaaGreatPk24
import Derived.Test.YtdngkcieckejoaaGreatPk25
namespace Go.Proofs.YtdngkcieckejoaaGreat
open Go.RowKit
theorem RdSlice.addr_some {α : Type} {k : Nat} {R : Reader α} {S : Nat → Prop} {w : World} {a : Option Addr} {n cap : Nat} {l : List α} (h : RdSlice k R S w (.slice a n cap) l) (hl : 0 < l.length) : ∃ b o,a = some ⟨b,o,none⟩ := by
 obtain ⟨a',cap',hv,_,_,_,h3⟩ := h
 obtain ⟨b,o,cs,ha,-⟩ := h3 0 l[0] (ζe hl)
 injection hv with e1 e2 e3
 subst e1
 exact ⟨b,o,ha⟩
def MergePost (ls : List Binds) (w : World) (e : Ending) (w' : World) : Prop :=
 (∃ a c,e = .returned (.slice a (ofC cmpBinds ls).length c) ∧ RdBindss (fun _ => True) w' (.slice a (ofC cmpBinds ls).length c) (ofC cmpBinds ls)) ∧ Below w.heap.size w w'
theorem addC_len {α : Type} [DecidableEq α] (c : α → α → Int) (f : α) : ∀ l : List α,(addC c f l).length ≤ l.length + 1
 | [] => ζn _
 | g :: l => by
  unfold addC
  split
  ·exact ζn _
  ·split
   ·exact Nat.le_succ _
   ·exact Nat.succ_le_succ (addC_len c f l)
theorem ofC_len {α : Type} [DecidableEq α] (c : α → α → Int) : ∀ l : List α,(ofC c l).length ≤ l.length
 | [] => ζn _
 | f :: l => Nat.le_trans (addC_len c f (ofC c l)) (Nat.succ_le_succ (ofC_len c l))
def lenM : Value → Nat
 | .slice _ n _ => n
 | _ => 0
theorem RdBindss.tail {S : Nat → Prop} {w : World} {b o n cap : Nat} {l : List Binds} (h : RdBindss S w (.slice (some ⟨b,o,none⟩) n cap) l) (hl : 0 < l.length) : RdBindss S w (.slice (if cap = 1 then some ⟨b,o,none⟩ else some ⟨b,o + 1,none⟩) (l.length - 1) (cap - 1)) (l.drop 1) := by
 have := RdSlice.drop_some h (show 1 ≤ l.length by omega)
 rwa [Nat.one_mul] at this
attribute [local go_sem ↓] Go.wp_at_zero Go.wp_at_succ
set_option maxRecDepth 100000 in
set_option maxHeartbeats 0 in
theorem mergeRefN : ∀ (N : Nat) {S : Nat → Prop} (ls : List Binds) (v : Value) (w : World),RdBindss S w v ls → ls.length ≤ N → N ≤ 1073741824 → (∀ x ∈ ls,x.length ≤ 1073741824) →
 Calls Tryz.prog 76 #[v] w (MergePost ls w) := by
 intro N
 induction N with
 | zero =>
  intro S ls v w h h0 _ _
  obtain rfl : ls = [] := List.length_eq_zero_iff.1 (by omega)
  obtain ⟨a,c,rfl,-,-,-⟩ := id h.form
  have H := ζ (h.more RBinds.steady (S' := fun _ => True) (fun _ _ _ => trivial))
  clear h
  go_enter Tryz.func76,Tryz.ntmps76
  go_wp2
  go_ret
  exact ⟨⟨a,c,rfl,H.out⟩,ζb _ _⟩
 | succ N ih =>
  intro S ls v w h h0 hN hs
  obtain ⟨a,c,rfl,hc,-,-⟩ := id h.form
  have H := ζ (h.more RBinds.steady (S' := fun _ => True) (fun _ _ _ => trivial))
  by_cases h2 : ls.length < 2
  ·have h2' : (ls.length : Int) < 2 := by omega
   have HE := ζ (ofC_short (c := cmpBinds) h2)
   clear h hs ih h2
   go_enter Tryz.func76,Tryz.ntmps76
   go_wp2
   go_ret
   exact ⟨⟨a,c,by rw [HE.out];rfl,by rw [HE.out];exact H.out⟩,ζb _ _⟩
  have h2' : ¬ (ls.length : Int) < 2 := by omega
  obtain ⟨b1,o1,rfl⟩ := h.addr_some (by omega)
  obtain ⟨m,hm⟩ : ∃ m,m = ls.length / 2 := ⟨_,rfl⟩
  have hm1 : 1 ≤ m := by omega
  have hm2 : m + 1 ≤ ls.length := by omega
  have hq : (ls.length : Int) / 2 = (m : Int) := by omega
  have hw : IntKind.i64.wrap (m : Int) = (m : Int) := by rw [IntKind.wrap_i64];omega
  have i1 : (0 : Int) ≤ (m : Int) := by omega
  have i2 : (m : Int) ≤ (c : Int) := by omega
  have i3 : (m : Int) ≤ (ls.length : Int) := by omega
  have K1 := ζ (fun W (hW : Below w.heap.size w W) => ih (ls.take m) (.slice (some ⟨b1,o1,none⟩) m c) W (RdSlice.take (H.out.agree RBinds.steady (Below.agree hW)) (by omega)) (by rw [List.length_take];omega) (by omega) (fun x hx => hs x (List.mem_of_mem_take hx)))
  have K2 := ζ (fun W (hW : Below w.heap.size w W) => (show Calls Tryz.prog 76 #[.slice (some ⟨b1,o1 + m,none⟩) (ls.length - m) (c - m)] W (MergePost (ls.drop m) W) by
   have h := RdSlice.drop_some (H.out.agree RBinds.steady (Below.agree hW)) (show m ≤ ls.length by omega)
   rw [if_neg (by omega),Nat.mul_one] at h
   exact ih (ls.drop m) _ W h (by rw [List.length_drop];omega) (by omega) (fun x hx => hs x (List.mem_of_mem_drop hx))))
  have HM0 := ζ (Mrg.start cmpBinds3 (p := ls.take m) (q := ls.drop m))
  rw [List.take_append_drop] at HM0
  have HS := ζ hs
  clear h hs ih hm
  go_enter Tryz.func76,Tryz.ntmps76
  have T1 := ζ True.intro
  go_wp2_with fail
  go_region_held3 (fun _ => True) (first | trivial | go_keep)
   (first
    | (go_at_call 76;have hh := HB1.out;clear hh;(with_reducible refine (K2.out _ HB1.out).mono ?_);rintro e w2 ⟨⟨ba,bc,rfl,hr2⟩,hb2⟩;have HB2 := ζ (HB1.out.trans (hb2.mono HB1.out.size));have HR2 := ζ hr2;have HA2 := ζ (HR1.out.agree RBinds.steady (Below.agree hb2));clear hr2 hb2)
    | (go_at_call 76;clear T1;(with_reducible refine (K1.out _ (ζb _ _).drew).mono ?_);rintro e w1 ⟨⟨aa,ac,rfl,hr1⟩,hb1⟩;have HB1 := ζ (show Below w.heap.size w w1 from (ζb _ _).drew.trans hb1);have HR1 := ζ hr1;clear hr1 hb1))
  obtain ⟨W0,hW0⟩ : ∃ W : World,W = w2 := ⟨_,rfl⟩
  subst hW0
  have HAO := ζ (HA2.out.more RBinds.steady (S' := fun q => q < W0.heap.size) (fun _ _ h => h))
  have HBO := ζ (HR2.out.more RBinds.steady (S' := fun q => q < W0.heap.size) (fun _ _ h => h))
  have hl0 : (ofC cmpBinds (ls.take m)).length + (ofC cmpBinds (ls.drop m)).length ≤ ls.length := by
   have h1 := ofC_len cmpBinds (ls.take m)
   have h2 := ofC_len cmpBinds (ls.drop m)
   rw [List.length_take] at h1
   rw [List.length_drop] at h2
   omega
  generalize ofC cmpBinds (ls.take m) = A0 at *
  generalize ofC cmpBinds (ls.drop m) = B0 at *
  clear K1 K2 HB1 HA2 HR2 HR1 hq hw i1 i2 i3 hm1
  go_wp2
  go_loopw [3,4,5] (fun va vb vo wr => ∃ A B O : List Binds,O.length + (A.length + B.length) ≤ ls.length ∧ Hid (Mrg cmpBinds ls O A B) ∧ Hid (RdBindss (fun q => q < W0.heap.size) wr va A) ∧ Hid (RdBindss (fun q => q < W0.heap.size) wr vb B) ∧ Hid (Owned 1 RBinds W0.heap.size 82 (fun q => q < W0.heap.size) wr vo O) ∧ Hid (Below W0.heap.size W0 wr)) (fun va vb _ _ => lenM va + lenM vb)
  case atStart => exact ⟨A0,B0,[],by simpa using hl0,HM0,HAO,HBO,ζ Owned.nil,ζ (ζb _ _)⟩
  case round =>
   clear HAO HBO HM0
   obtain ⟨A,B,O,hle,HM,HA,HBB,HO,HB⟩ := hrel
   obtain ⟨aa,ac,rfl,hac,-,-⟩ := id HA.out.form
   obtain ⟨ba,bc,rfl,hbc,-,-⟩ := id HBB.out.form
   obtain ⟨oa,oc,rfl,-,-,-⟩ := id (HO.out.read RBinds.steady).form
   have hcs : (A.length = 0 ∧ B.length = 0) ∨ (0 < A.length ∧ B.length = 0) ∨ (A.length = 0 ∧ 0 < B.length) ∨ (0 < A.length ∧ 0 < B.length) := by omega
   rcases hcs with ⟨hA,hB⟩ | ⟨hA,hB⟩ | ⟨hA,hB⟩ | ⟨hA,hB⟩
   ·obtain rfl := List.length_eq_zero_iff.1 hA
    obtain rfl := List.length_eq_zero_iff.1 hB
    have HE := ζ (HM.out.done cmpBinds3)
    clear hA hB
    go_wp2
    go_ret
    exact ⟨⟨oa,oc,by rw [← HE.out];rfl,by rw [← HE.out];exact (HO.out.read RBinds.steady).more RBinds.steady (fun _ _ _ => trivial)⟩,HB2.out.trans (HB.out.mono HB2.out.size)⟩
   ·obtain rfl := List.length_eq_zero_iff.1 hB
    obtain ⟨b2,o2,rfl⟩ := HA.out.addr_some hA
    have HT0 := HA.out.tail hA
    obtain ⟨x,A',rfl⟩ : ∃ x A',A = x :: A' := ⟨A[0],A.drop 1,by have h := drop_cons (ζe hA);simpa using h⟩
    have hx : (x :: A')[0]? = some x := rfl
    have hxm : x ∈ ls := (HM.out.mem x).1 (.inr (.inl (List.mem_cons_self ..)))
    obtain ⟨b3,o3,xv,e3,-,hb3,d3,hxr⟩ := RdBindss.at1 HA.out hx
    injection e3 with e3
    injection e3 with e3 e4
    subst e3 e4
    rw [Nat.add_zero] at d3
    obtain ⟨xa,xc,rfl,-,-,-⟩ := id hxr.form
    have HT := ζ (show RdBindss (fun q => q < W0.heap.size) wr (.slice (if ac = 1 then some ⟨b2,o2,none⟩ else some ⟨b2,o2 + 1,none⟩) A'.length (ac - 1)) A' from HT0)
    have hle' : O.length + A'.length + 0 + 1 ≤ ls.length := by simp only [List.length_cons,List.length_nil] at hle;omega
    have k1 : ¬ (A'.length : Int) + 1 ≤ 0 := by omega
    have k2 : (0 : Int) < (A'.length : Int) + 1 := by omega
    have k3 : (1 : Int) ≤ (A'.length : Int) + 1 := by omega
    have k4 : (1 : Int) ≤ (ac : Int) := by simp only [List.length_cons] at hac;omega
    have k5 : ¬ (A'.length : Int) + 1 = 0 := by omega
    have k6 : ((A'.length : Int) + 1 == 0) = false := by rw [beq_eq_false_iff_ne];omega
    clear HT0 hx hac hle
    have hM' : Mrg cmpBinds ls O (x :: A') [] := HM.out
    obtain ⟨n1,n2⟩ := hM'.step cmpBinds3 (fun y hy => by cases hy)
    have N1 := ζ n1
    have N2 := ζ n2
    clear hM' n1 n2
    go_wp2_with fail
    go_quiet (fail)
    rename Nat => q1
    go_wp2_with fail
    go_quiet (fail)
    rename Nat => q2
    have HB3 := ζ (show Below W0.heap.size W0 ((wr.drewN q1).drewN q2) from ⟨HB.out.os,HB.out.tape,HB.out.output,HB.out.size,HB.out.block⟩)
    have HO3 := ζ (show Owned 1 RBinds W0.heap.size 82 (fun q => q < W0.heap.size) ((wr.drewN q1).drewN q2) (.slice oa O.length oc) O from HO.out)
    have HT3 := ζ (show RdBindss (fun q => q < W0.heap.size) ((wr.drewN q1).drewN q2) _ A' from HT.out)
    have HU3 := ζ (show RdBindss (fun q => q < W0.heap.size) ((wr.drewN q1).drewN q2) _ ([] : List Binds) from HBB.out)
    have HX3 := ζ (show RdBinds (fun q => q < W0.heap.size) ((wr.drewN q1).drewN q2) (.slice xa x.length xc) x from hxr)
    clear hxr d3
    generalize ((wr.drewN q1).drewN q2) = w3 at *
    generalize (if ac = 1 then (some (⟨b2,o2,none⟩ : Addr)) else some ⟨b2,o2 + 1,none⟩) = ta at *
    have HA3 := HT3
    have HQ3 := HU3
    clear HT3 HU3 HT HB
    have hxs : x.length ≤ 1073741824 := HS.out x hxm
    have hO : O = [] ∨ (∃ z,O.getLast? = some z ∧ 0 < O.length ∧ ltC cmpBinds z x = true) ∨ (∃ z,O.getLast? = some z ∧ 0 < O.length ∧ ltC cmpBinds z x = false) := by
     by_cases e : O = []
     ·exact .inl e
     ·have hp : 0 < O.length := List.length_pos_iff.2 e
      cases h : ltC cmpBinds (O.getLast e) x
      ·exact .inr (.inr ⟨_,List.getLast?_eq_some_getLast e,hp,h⟩)
      ·exact .inr (.inl ⟨_,List.getLast?_eq_some_getLast e,hp,h⟩)
    rcases hO with rfl | ⟨z,hz,hp,hzx⟩ | ⟨z,hz,hp,hzx⟩
    ·have HN := ζ (N1.out (.inl rfl))
     have HRW := ζ (fun q (hq : (Value.slice oa ([] : List Binds).length oc).ownBlock = some q) => (HO3.out.row_lt hq).1)
     clear N1 N2
     go_wp2_with (
      at_builtin
      refine wpList_append_one (B := W0.heap.size) (e := 82) (S := fun q => q < W0.heap.size) (by rfl) _ _ 106 (by rfl) RBinds.steady rowBindss _ ([] : List Binds) (by rfl) (HO3.out.alloc RBinds.steady _) w3.heap.size 1 #[.slice xa x.length xc] 82 (0,0) x (by rfl) (heap_alloc_new _ _) rfl (by simp [Value.oneCell']) ⟨_,rfl,(HX3.out.agree RBind.steady (Below.agree' ((ζb W0.heap.size _).alloc HB3.out.size _))).more RBind.steady (fun q hq _ => ⟨hq,fun e => by have h1 := HRW.out q e.symm;have h2 : q < W0.heap.size := hq;omega⟩)⟩ (by first | (simp;done) | omega) (by have := HB3.out.size;simp;omega) ?_
      intro v6 w6 ho6 hg6 hat6
      have HO6 := ζ ho6
      have hb6 := ((ζb W0.heap.size w3).alloc HB3.out.size (.cells #[.slice xa x.length xc] 82)).grown hg6 (by have := HB3.out.size;simp;omega) (fun q hq => HRW.out q hq)
      have HB6 := ζ (HB3.out.trans hb6)
      have HA6 := ζ (RdSlice.agree RBinds.steady (Below.agree' hb6) HA3.out)
      have HQ6 := ζ (RdSlice.agree RBinds.steady (Below.agree' hb6) HQ3.out)
      clear ho6 hg6 hat6 hb6)
     go_roundw
     case rel => exact ⟨A',[],_,by (simp only [List.length_append,List.length_cons,List.length_nil] at hle' ⊢;omega),HN,HA6,HQ6,HO6,HB6⟩
     case measure => first | (simp [lenM];done) | (simp [lenM];omega)
    ·have HN := ζ (N1.out (.inr ⟨z,hz,hzx⟩))
     have HRW := ζ (fun q (hq : (Value.slice oa O.length oc).ownBlock = some q) => (HO3.out.row_lt hq).1)
     obtain ⟨p,hpl⟩ : ∃ p,p + 1 = O.length := ⟨O.length - 1,by omega⟩
     have hzp : O[p]? = some z := by rw [List.getLast?_eq_getElem?] at hz;rwa [show p = O.length - 1 by omega]
     obtain ⟨b5,o5,zv,hoa,hb5s,hb5,d5,hzr⟩ := RdBindss.at1 (HO3.out.read RBinds.steady) hzp
     subst hoa
     obtain ⟨za,zc,rfl,-,-,-⟩ := id hzr.form
     have hzs : z.length ≤ 1073741824 := HS.out z ((HM.out.mem z).1 (.inl (ζm hzp)))
     have KL := ζ (fun W (hW : Below w3.heap.size w3 W) => lessBindsRef (.slice za z.length zc) (.slice xa x.length xc) z x W (hzr.up hW) (HX3.out.up hW) hzs hxs)
     have hcmp : decide (cmpBinds z x < 0) = ltC cmpBinds z x := rfl
     rw [hcmp,hzx] at KL
     have j1 : (1 : Int) ≤ (O.length : Int) := by omega
     have j2 : (O.length : Int) - 1 < (O.length : Int) := by omega
     rw [show p = O.length - 1 by omega] at d5
     have j4 : ¬ O = [] := fun e => by rw [e] at hp;exact absurd hp (Nat.lt_irrefl _)
     clear hpl
     clear N1 N2 hz hzr hzp
     go_wp2_with (first
      | (at_builtin
         refine wpList_append_one (B := W0.heap.size) (e := 82) (S := fun q => q < W0.heap.size) (by rfl) _ _ 106 (by rfl) RBinds.steady rowBindss _ O (by rfl) (HO4.out.alloc RBinds.steady _) w4.heap.size 1 #[.slice xa x.length xc] 82 (0,0) x (by rfl) (heap_alloc_new _ _) rfl (by simp [Value.oneCell']) ⟨_,rfl,(HX4.out.agree RBind.steady (Below.agree' ((ζb W0.heap.size _).alloc HB4.out.size _))).more RBind.steady (fun q hq _ => ⟨hq,fun e => by have h1 := HRW.out q e.symm;have h2 : q < W0.heap.size := hq;omega⟩)⟩ (by first | (simp;done) | omega) (by have := HB4.out.size;simp;omega) ?_
         intro v6 w6 ho6 hg6 hat6
         have HO6 := ζ ho6
         have hb6 := ((ζb W0.heap.size w4).alloc HB4.out.size (.cells #[.slice xa x.length xc] 82)).grown hg6 (by have := HB4.out.size;simp;omega) (fun q hq => HRW.out q hq)
         have HB6 := ζ (HB4.out.trans hb6)
         have HA6 := ζ (RdSlice.agree RBinds.steady (Below.agree' hb6) HA4.out)
         have HQ6 := ζ (RdSlice.agree RBinds.steady (Below.agree' hb6) HQ4.out)
         clear ho6 hg6 hat6 hb6)
      | (go_at_call 96
         refine (KL.out _ (ζb _ _)).mono ?_
         rintro e w4 ⟨rfl,hf4⟩
         have hb4 : Below W0.heap.size w3 w4 := hf4.below.mono HB3.out.size
         have HB4 := ζ (HB3.out.trans hb4)
         have HO4 := ζ (HO3.out.below RBinds.steady hf4.below)
         have HA4 := ζ (RdSlice.agree RBinds.steady (Below.agree' hb4) HA3.out)
         have HQ4 := ζ (RdSlice.agree RBinds.steady (Below.agree' hb4) HQ3.out)
         have HX4 := ζ (RdSlice.agree RBind.steady (Below.agree' hb4) HX3.out)
         clear hf4 hb4))
     go_roundw
     case rel => exact ⟨A',[],_,by (simp only [List.length_append,List.length_cons,List.length_nil] at hle' ⊢;omega),HN,HA6,HQ6,HO6,HB6⟩
     case measure => first | (simp [lenM];done) | (simp [lenM];omega)
    ·have HN := ζ (N2.out z hz hzx)
     obtain ⟨p,hpl⟩ : ∃ p,p + 1 = O.length := ⟨O.length - 1,by omega⟩
     have hzp : O[p]? = some z := by rw [List.getLast?_eq_getElem?] at hz;rwa [show p = O.length - 1 by omega]
     obtain ⟨b5,o5,zv,hoa,hb5s,hb5,d5,hzr⟩ := RdBindss.at1 (HO3.out.read RBinds.steady) hzp
     subst hoa
     obtain ⟨za,zc,rfl,-,-,-⟩ := id hzr.form
     have hzs : z.length ≤ 1073741824 := HS.out z ((HM.out.mem z).1 (.inl (ζm hzp)))
     have KL := ζ (fun W (hW : Below w3.heap.size w3 W) => lessBindsRef (.slice za z.length zc) (.slice xa x.length xc) z x W (hzr.up hW) (HX3.out.up hW) hzs hxs)
     have hcmp : decide (cmpBinds z x < 0) = ltC cmpBinds z x := rfl
     rw [hcmp,hzx] at KL
     have j1 : (1 : Int) ≤ (O.length : Int) := by omega
     have j2 : (O.length : Int) - 1 < (O.length : Int) := by omega
     rw [show p = O.length - 1 by omega] at d5
     have j4 : ¬ O = [] := fun e => by rw [e] at hp;exact absurd hp (Nat.lt_irrefl _)
     clear hpl
     clear N1 N2 hz hzr hzp
     go_wp2_with (
      go_at_call 96
      refine (KL.out _ (ζb _ _)).mono ?_
      rintro e w4 ⟨rfl,hf4⟩
      have hb4 : Below W0.heap.size w3 w4 := hf4.below.mono HB3.out.size
      have HB4 := ζ (HB3.out.trans hb4)
      have HO4 := ζ (HO3.out.below RBinds.steady hf4.below)
      have HA4 := ζ (RdSlice.agree RBinds.steady (Below.agree' hb4) HA3.out)
      have HQ4 := ζ (RdSlice.agree RBinds.steady (Below.agree' hb4) HQ3.out)
      have HX4 := ζ (RdSlice.agree RBind.steady (Below.agree' hb4) HX3.out)
      clear hf4 hb4)
     go_wp2
     go_roundw
     case rel => exact ⟨A',[],O,by (simp only [List.length_nil] at hle' ⊢;omega),HN,HA4,HQ4,HO4,HB4⟩
     case measure => first | (simp [lenM];done) | (simp [lenM];omega)
   ·obtain rfl := List.length_eq_zero_iff.1 hA
    obtain ⟨b2,o2,rfl⟩ := HBB.out.addr_some hB
    have HT0 := HBB.out.tail hB
    obtain ⟨x,B',rfl⟩ : ∃ x B',B = x :: B' := ⟨B[0],B.drop 1,by have h := drop_cons (ζe hB);simpa using h⟩
    have hx : (x :: B')[0]? = some x := rfl
    have hxm : x ∈ ls := (HM.out.mem x).1 (.inr (.inr (List.mem_cons_self ..)))
    obtain ⟨b3,o3,xv,e3,-,hb3,d3,hxr⟩ := RdBindss.at1 HBB.out hx
    injection e3 with e3
    injection e3 with e3 e4
    subst e3 e4
    rw [Nat.add_zero] at d3
    obtain ⟨xa,xc,rfl,-,-,-⟩ := id hxr.form
    have HT := ζ (show RdBindss (fun q => q < W0.heap.size) wr (.slice (if bc = 1 then some ⟨b2,o2,none⟩ else some ⟨b2,o2 + 1,none⟩) B'.length (bc - 1)) B' from HT0)
    have hle' : O.length + B'.length + 0 + 1 ≤ ls.length := by simp only [List.length_cons,List.length_nil] at hle;omega
    have k1 : ¬ (B'.length : Int) + 1 ≤ 0 := by omega
    have k2 : (0 : Int) < (B'.length : Int) + 1 := by omega
    have k3 : (1 : Int) ≤ (B'.length : Int) + 1 := by omega
    have k4 : (1 : Int) ≤ (bc : Int) := by simp only [List.length_cons] at hbc;omega
    have k5 : ¬ (B'.length : Int) + 1 = 0 := by omega
    have k6 : ((B'.length : Int) + 1 == 0) = false := by rw [beq_eq_false_iff_ne];omega
    clear HT0 hx hbc hle
    have hM' : Mrg cmpBinds ls O (x :: B') [] := (HM.out.swap)
    obtain ⟨n1,n2⟩ := hM'.step cmpBinds3 (fun y hy => by cases hy)
    have N1 := ζ n1
    have N2 := ζ n2
    clear hM' n1 n2
    go_wp2_with fail
    go_quiet (fail)
    rename Nat => q1
    go_wp2_with fail
    go_quiet (fail)
    rename Nat => q2
    have HB3 := ζ (show Below W0.heap.size W0 ((wr.drewN q1).drewN q2) from ⟨HB.out.os,HB.out.tape,HB.out.output,HB.out.size,HB.out.block⟩)
    have HO3 := ζ (show Owned 1 RBinds W0.heap.size 82 (fun q => q < W0.heap.size) ((wr.drewN q1).drewN q2) (.slice oa O.length oc) O from HO.out)
    have HT3 := ζ (show RdBindss (fun q => q < W0.heap.size) ((wr.drewN q1).drewN q2) _ B' from HT.out)
    have HU3 := ζ (show RdBindss (fun q => q < W0.heap.size) ((wr.drewN q1).drewN q2) _ ([] : List Binds) from HA.out)
    have HX3 := ζ (show RdBinds (fun q => q < W0.heap.size) ((wr.drewN q1).drewN q2) (.slice xa x.length xc) x from hxr)
    clear hxr d3
    generalize ((wr.drewN q1).drewN q2) = w3 at *
    generalize (if bc = 1 then (some (⟨b2,o2,none⟩ : Addr)) else some ⟨b2,o2 + 1,none⟩) = ta at *
    have HA3 := HU3
    have HQ3 := HT3
    clear HT3 HU3 HT HB
    have hxs : x.length ≤ 1073741824 := HS.out x hxm
    have hO : O = [] ∨ (∃ z,O.getLast? = some z ∧ 0 < O.length ∧ ltC cmpBinds z x = true) ∨ (∃ z,O.getLast? = some z ∧ 0 < O.length ∧ ltC cmpBinds z x = false) := by
     by_cases e : O = []
     ·exact .inl e
     ·have hp : 0 < O.length := List.length_pos_iff.2 e
      cases h : ltC cmpBinds (O.getLast e) x
      ·exact .inr (.inr ⟨_,List.getLast?_eq_some_getLast e,hp,h⟩)
      ·exact .inr (.inl ⟨_,List.getLast?_eq_some_getLast e,hp,h⟩)
    rcases hO with rfl | ⟨z,hz,hp,hzx⟩ | ⟨z,hz,hp,hzx⟩
    ·have HN := ζ ((N1.out (.inl rfl)).swap)
     have HRW := ζ (fun q (hq : (Value.slice oa ([] : List Binds).length oc).ownBlock = some q) => (HO3.out.row_lt hq).1)
     clear N1 N2
     go_wp2_with (
      at_builtin
      refine wpList_append_one (B := W0.heap.size) (e := 82) (S := fun q => q < W0.heap.size) (by rfl) _ _ 106 (by rfl) RBinds.steady rowBindss _ ([] : List Binds) (by rfl) (HO3.out.alloc RBinds.steady _) w3.heap.size 1 #[.slice xa x.length xc] 82 (0,0) x (by rfl) (heap_alloc_new _ _) rfl (by simp [Value.oneCell']) ⟨_,rfl,(HX3.out.agree RBind.steady (Below.agree' ((ζb W0.heap.size _).alloc HB3.out.size _))).more RBind.steady (fun q hq _ => ⟨hq,fun e => by have h1 := HRW.out q e.symm;have h2 : q < W0.heap.size := hq;omega⟩)⟩ (by first | (simp;done) | omega) (by have := HB3.out.size;simp;omega) ?_
      intro v6 w6 ho6 hg6 hat6
      have HO6 := ζ ho6
      have hb6 := ((ζb W0.heap.size w3).alloc HB3.out.size (.cells #[.slice xa x.length xc] 82)).grown hg6 (by have := HB3.out.size;simp;omega) (fun q hq => HRW.out q hq)
      have HB6 := ζ (HB3.out.trans hb6)
      have HA6 := ζ (RdSlice.agree RBinds.steady (Below.agree' hb6) HA3.out)
      have HQ6 := ζ (RdSlice.agree RBinds.steady (Below.agree' hb6) HQ3.out)
      clear ho6 hg6 hat6 hb6)
     go_roundw
     case rel => exact ⟨[],B',_,by (simp only [List.length_append,List.length_cons,List.length_nil] at hle' ⊢;omega),HN,HA6,HQ6,HO6,HB6⟩
     case measure => first | (simp [lenM];done) | (simp [lenM];omega)
    ·have HN := ζ ((N1.out (.inr ⟨z,hz,hzx⟩)).swap)
     have HRW := ζ (fun q (hq : (Value.slice oa O.length oc).ownBlock = some q) => (HO3.out.row_lt hq).1)
     obtain ⟨p,hpl⟩ : ∃ p,p + 1 = O.length := ⟨O.length - 1,by omega⟩
     have hzp : O[p]? = some z := by rw [List.getLast?_eq_getElem?] at hz;rwa [show p = O.length - 1 by omega]
     obtain ⟨b5,o5,zv,hoa,hb5s,hb5,d5,hzr⟩ := RdBindss.at1 (HO3.out.read RBinds.steady) hzp
     subst hoa
     obtain ⟨za,zc,rfl,-,-,-⟩ := id hzr.form
     have hzs : z.length ≤ 1073741824 := HS.out z ((HM.out.mem z).1 (.inl (ζm hzp)))
     have KL := ζ (fun W (hW : Below w3.heap.size w3 W) => lessBindsRef (.slice za z.length zc) (.slice xa x.length xc) z x W (hzr.up hW) (HX3.out.up hW) hzs hxs)
     have hcmp : decide (cmpBinds z x < 0) = ltC cmpBinds z x := rfl
     rw [hcmp,hzx] at KL
     have j1 : (1 : Int) ≤ (O.length : Int) := by omega
     have j2 : (O.length : Int) - 1 < (O.length : Int) := by omega
     rw [show p = O.length - 1 by omega] at d5
     have j4 : ¬ O = [] := fun e => by rw [e] at hp;exact absurd hp (Nat.lt_irrefl _)
     clear hpl
     clear N1 N2 hz hzr hzp
     go_wp2_with (first
      | (at_builtin
         refine wpList_append_one (B := W0.heap.size) (e := 82) (S := fun q => q < W0.heap.size) (by rfl) _ _ 106 (by rfl) RBinds.steady rowBindss _ O (by rfl) (HO4.out.alloc RBinds.steady _) w4.heap.size 1 #[.slice xa x.length xc] 82 (0,0) x (by rfl) (heap_alloc_new _ _) rfl (by simp [Value.oneCell']) ⟨_,rfl,(HX4.out.agree RBind.steady (Below.agree' ((ζb W0.heap.size _).alloc HB4.out.size _))).more RBind.steady (fun q hq _ => ⟨hq,fun e => by have h1 := HRW.out q e.symm;have h2 : q < W0.heap.size := hq;omega⟩)⟩ (by first | (simp;done) | omega) (by have := HB4.out.size;simp;omega) ?_
         intro v6 w6 ho6 hg6 hat6
         have HO6 := ζ ho6
         have hb6 := ((ζb W0.heap.size w4).alloc HB4.out.size (.cells #[.slice xa x.length xc] 82)).grown hg6 (by have := HB4.out.size;simp;omega) (fun q hq => HRW.out q hq)
         have HB6 := ζ (HB4.out.trans hb6)
         have HA6 := ζ (RdSlice.agree RBinds.steady (Below.agree' hb6) HA4.out)
         have HQ6 := ζ (RdSlice.agree RBinds.steady (Below.agree' hb6) HQ4.out)
         clear ho6 hg6 hat6 hb6)
      | (go_at_call 96
         refine (KL.out _ (ζb _ _)).mono ?_
         rintro e w4 ⟨rfl,hf4⟩
         have hb4 : Below W0.heap.size w3 w4 := hf4.below.mono HB3.out.size
         have HB4 := ζ (HB3.out.trans hb4)
         have HO4 := ζ (HO3.out.below RBinds.steady hf4.below)
         have HA4 := ζ (RdSlice.agree RBinds.steady (Below.agree' hb4) HA3.out)
         have HQ4 := ζ (RdSlice.agree RBinds.steady (Below.agree' hb4) HQ3.out)
         have HX4 := ζ (RdSlice.agree RBind.steady (Below.agree' hb4) HX3.out)
         clear hf4 hb4))
     go_roundw
     case rel => exact ⟨[],B',_,by (simp only [List.length_append,List.length_cons,List.length_nil] at hle' ⊢;omega),HN,HA6,HQ6,HO6,HB6⟩
     case measure => first | (simp [lenM];done) | (simp [lenM];omega)
    ·have HN := ζ ((N2.out z hz hzx).swap)
     obtain ⟨p,hpl⟩ : ∃ p,p + 1 = O.length := ⟨O.length - 1,by omega⟩
     have hzp : O[p]? = some z := by rw [List.getLast?_eq_getElem?] at hz;rwa [show p = O.length - 1 by omega]
     obtain ⟨b5,o5,zv,hoa,hb5s,hb5,d5,hzr⟩ := RdBindss.at1 (HO3.out.read RBinds.steady) hzp
     subst hoa
     obtain ⟨za,zc,rfl,-,-,-⟩ := id hzr.form
     have hzs : z.length ≤ 1073741824 := HS.out z ((HM.out.mem z).1 (.inl (ζm hzp)))
     have KL := ζ (fun W (hW : Below w3.heap.size w3 W) => lessBindsRef (.slice za z.length zc) (.slice xa x.length xc) z x W (hzr.up hW) (HX3.out.up hW) hzs hxs)
     have hcmp : decide (cmpBinds z x < 0) = ltC cmpBinds z x := rfl
     rw [hcmp,hzx] at KL
     have j1 : (1 : Int) ≤ (O.length : Int) := by omega
     have j2 : (O.length : Int) - 1 < (O.length : Int) := by omega
     rw [show p = O.length - 1 by omega] at d5
     have j4 : ¬ O = [] := fun e => by rw [e] at hp;exact absurd hp (Nat.lt_irrefl _)
     clear hpl
     clear N1 N2 hz hzr hzp
     go_wp2_with (
      go_at_call 96
      refine (KL.out _ (ζb _ _)).mono ?_
      rintro e w4 ⟨rfl,hf4⟩
      have hb4 : Below W0.heap.size w3 w4 := hf4.below.mono HB3.out.size
      have HB4 := ζ (HB3.out.trans hb4)
      have HO4 := ζ (HO3.out.below RBinds.steady hf4.below)
      have HA4 := ζ (RdSlice.agree RBinds.steady (Below.agree' hb4) HA3.out)
      have HQ4 := ζ (RdSlice.agree RBinds.steady (Below.agree' hb4) HQ3.out)
      have HX4 := ζ (RdSlice.agree RBind.steady (Below.agree' hb4) HX3.out)
      clear hf4 hb4)
     go_wp2
     go_roundw
     case rel => exact ⟨[],B',O,by (simp only [List.length_nil] at hle' ⊢;omega),HN,HA4,HQ4,HO4,HB4⟩
     case measure => first | (simp [lenM];done) | (simp [lenM];omega)
   ·cases hxy : decide (cmpBinds (B[0]) (A[0]) < 0)
    ·obtain ⟨b2,o2,rfl⟩ := HA.out.addr_some hA
     have HT0 := HA.out.tail hA
     obtain ⟨x,A',rfl⟩ : ∃ x A',A = x :: A' := ⟨A[0],A.drop 1,by have h := drop_cons (ζe hA);simpa using h⟩
     have hx : (x :: A')[0]? = some x := rfl
     have hxm : x ∈ ls := (HM.out.mem x).1 (.inr (.inl (List.mem_cons_self ..)))
     obtain ⟨b3,o3,xv,e3,-,hb3,d3,hxr⟩ := RdBindss.at1 HA.out hx
     injection e3 with e3
     injection e3 with e3 e4
     subst e3 e4
     rw [Nat.add_zero] at d3
     obtain ⟨xa,xc,rfl,-,-,-⟩ := id hxr.form
     have HT := ζ (show RdBindss (fun q => q < W0.heap.size) wr (.slice (if ac = 1 then some ⟨b2,o2,none⟩ else some ⟨b2,o2 + 1,none⟩) A'.length (ac - 1)) A' from HT0)
     have hle' : O.length + A'.length + B.length + 1 ≤ ls.length := by simp only [List.length_cons] at hle;omega
     have k1 : ¬ (A'.length : Int) + 1 ≤ 0 := by omega
     have k2 : (0 : Int) < (A'.length : Int) + 1 := by omega
     have k3 : (1 : Int) ≤ (A'.length : Int) + 1 := by omega
     have k4 : (1 : Int) ≤ (ac : Int) := by simp only [List.length_cons] at hac;omega
     have k5 : ¬ (A'.length : Int) + 1 = 0 := by omega
     have k6 : ((A'.length : Int) + 1 == 0) = false := by rw [beq_eq_false_iff_ne];omega
     clear HT0 hx hac hle
     obtain ⟨b6,o6,rfl⟩ := HBB.out.addr_some hB
     obtain ⟨y,B',rfl⟩ : ∃ y B',B = y :: B' := ⟨B[0],B.drop 1,by have h := drop_cons (ζe hB);simpa using h⟩
     have hy : (y :: B')[0]? = some y := rfl
     have hym : y ∈ ls := (HM.out.mem y).1 (.inr (.inr (List.mem_cons_self ..)))
     obtain ⟨b7,o7,yv,e7,-,hb7,d7,hyr⟩ := RdBindss.at1 HBB.out hy
     injection e7 with e7
     injection e7 with e7 e8
     subst e7 e8
     rw [Nat.add_zero] at d7
     obtain ⟨ya,yc,rfl,-,-,-⟩ := id hyr.form
     have l1 : ¬ (B'.length : Int) + 1 ≤ 0 := by omega
     have l2 : (0 : Int) < (B'.length : Int) + 1 := by omega
     have l5 : ¬ (B'.length : Int) + 1 = 0 := by omega
     have KS := ζ (fun W (hW : Below wr.heap.size wr W) => lessBindsRef (.slice ya y.length yc) (.slice xa x.length xc) y x W (hyr.up hW) (hxr.up hW) (HS.out y hym) (HS.out x hxm))
     have hcmp : decide (cmpBinds y x < 0) = false := hxy
     rw [hcmp] at KS
     have hM' : Mrg cmpBinds ls O (x :: A') (y :: B') := HM.out
     obtain ⟨n1,n2⟩ := hM'.step cmpBinds3 (head_low cmpBinds3 HM.out.rb hcmp)
     have N1 := ζ n1
     have N2 := ζ n2
     clear hM' n1 n2 hy hcmp hxy
     go_wp2_with fail
     go_region_held3 (fun w' => w'.cell? ⟨b2,o2,none⟩ = some (.slice xa x.length xc) ∧ w'.cell? ⟨b6,o6,none⟩ = some (.slice ya y.length yc))
      (first | (with_reducible exact ⟨g3,g7⟩) | (with_reducible exact ⟨d3,d7⟩) | go_keep)
      (first | (go_at_call 96;refine (KS.out _ (ζb _ _).drew).mono ?_;rintro e w5 ⟨rfl,hf5⟩;have HB5 := ζ (show Below wr.heap.size wr w5 from (ζb _ _).drew.trans hf5.below);have g3 := (ζl HB5.out hb3 o2).trans d3;have g7 := (ζl HB5.out hb7 o6).trans d7;clear hf5))
     go_wp2_with fail
     go_quiet (fail)
     rename Nat => q2
     have hbq : Below wr.heap.size wr (w5.drewN q2) := (let h := HB5.out;⟨h.os,h.tape,h.output,h.size,h.block⟩)
     have hb5 : Below W0.heap.size wr (w5.drewN q2) := hbq.mono HB.out.size
     have HB3 := ζ (show Below W0.heap.size W0 (w5.drewN q2) from HB.out.trans hb5)
     have HO3 := ζ (show Owned 1 RBinds W0.heap.size 82 (fun q => q < W0.heap.size) (w5.drewN q2) (.slice oa O.length oc) O from HO.out.below RBinds.steady hbq)
     have HT3 := ζ (show RdBindss (fun q => q < W0.heap.size) (w5.drewN q2) _ A' from RdSlice.agree RBinds.steady (Below.agree' hb5) HT.out)
     have HU3 := ζ (show RdBindss (fun q => q < W0.heap.size) (w5.drewN q2) _ (y :: B') from RdSlice.agree RBinds.steady (Below.agree' hb5) HBB.out)
     have HX3 := ζ (show RdBinds (fun q => q < W0.heap.size) (w5.drewN q2) (.slice xa x.length xc) x from hxr.agree RBind.steady (Below.agree' hb5))
     clear hxr hyr d3 d7 g3 g7 hb5 hbq KS HB5
     generalize w5.drewN q2 = w3 at *
     generalize (if ac = 1 then (some (⟨b2,o2,none⟩ : Addr)) else some ⟨b2,o2 + 1,none⟩) = ta at *
     have HA3 := HT3
     have HQ3 := HU3
     clear HT3 HU3 HT HB
     have hxs : x.length ≤ 1073741824 := HS.out x hxm
     have hO : O = [] ∨ (∃ z,O.getLast? = some z ∧ 0 < O.length ∧ ltC cmpBinds z x = true) ∨ (∃ z,O.getLast? = some z ∧ 0 < O.length ∧ ltC cmpBinds z x = false) := by
      by_cases e : O = []
      ·exact .inl e
      ·have hp : 0 < O.length := List.length_pos_iff.2 e
       cases h : ltC cmpBinds (O.getLast e) x
       ·exact .inr (.inr ⟨_,List.getLast?_eq_some_getLast e,hp,h⟩)
       ·exact .inr (.inl ⟨_,List.getLast?_eq_some_getLast e,hp,h⟩)
     rcases hO with rfl | ⟨z,hz,hp,hzx⟩ | ⟨z,hz,hp,hzx⟩
     ·have HN := ζ (N1.out (.inl rfl))
      have HRW := ζ (fun q (hq : (Value.slice oa ([] : List Binds).length oc).ownBlock = some q) => (HO3.out.row_lt hq).1)
      clear N1 N2
      go_wp2_with (
       at_builtin
       refine wpList_append_one (B := W0.heap.size) (e := 82) (S := fun q => q < W0.heap.size) (by rfl) _ _ 106 (by rfl) RBinds.steady rowBindss _ ([] : List Binds) (by rfl) (HO3.out.alloc RBinds.steady _) w3.heap.size 1 #[.slice xa x.length xc] 82 (0,0) x (by rfl) (heap_alloc_new _ _) rfl (by simp [Value.oneCell']) ⟨_,rfl,(HX3.out.agree RBind.steady (Below.agree' ((ζb W0.heap.size _).alloc HB3.out.size _))).more RBind.steady (fun q hq _ => ⟨hq,fun e => by have h1 := HRW.out q e.symm;have h2 : q < W0.heap.size := hq;omega⟩)⟩ (by first | (simp;done) | omega) (by have := HB3.out.size;simp;omega) ?_
       intro v6 w6 ho6 hg6 hat6
       have HO6 := ζ ho6
       have hb6 := ((ζb W0.heap.size w3).alloc HB3.out.size (.cells #[.slice xa x.length xc] 82)).grown hg6 (by have := HB3.out.size;simp;omega) (fun q hq => HRW.out q hq)
       have HB6 := ζ (HB3.out.trans hb6)
       have HA6 := ζ (RdSlice.agree RBinds.steady (Below.agree' hb6) HA3.out)
       have HQ6 := ζ (RdSlice.agree RBinds.steady (Below.agree' hb6) HQ3.out)
       clear ho6 hg6 hat6 hb6)
      go_roundw
      case rel => exact ⟨A',(y :: B'),_,by (simp only [List.length_append,List.length_cons,List.length_nil] at hle' ⊢;omega),HN,HA6,HQ6,HO6,HB6⟩
      case measure => first | (simp [lenM];done) | (simp [lenM];omega)
     ·have HN := ζ (N1.out (.inr ⟨z,hz,hzx⟩))
      have HRW := ζ (fun q (hq : (Value.slice oa O.length oc).ownBlock = some q) => (HO3.out.row_lt hq).1)
      obtain ⟨p,hpl⟩ : ∃ p,p + 1 = O.length := ⟨O.length - 1,by omega⟩
      have hzp : O[p]? = some z := by rw [List.getLast?_eq_getElem?] at hz;rwa [show p = O.length - 1 by omega]
      obtain ⟨b5,o5,zv,hoa,hb5s,hb5,d5,hzr⟩ := RdBindss.at1 (HO3.out.read RBinds.steady) hzp
      subst hoa
      obtain ⟨za,zc,rfl,-,-,-⟩ := id hzr.form
      have hzs : z.length ≤ 1073741824 := HS.out z ((HM.out.mem z).1 (.inl (ζm hzp)))
      have KL := ζ (fun W (hW : Below w3.heap.size w3 W) => lessBindsRef (.slice za z.length zc) (.slice xa x.length xc) z x W (hzr.up hW) (HX3.out.up hW) hzs hxs)
      have hcmp : decide (cmpBinds z x < 0) = ltC cmpBinds z x := rfl
      rw [hcmp,hzx] at KL
      have j1 : (1 : Int) ≤ (O.length : Int) := by omega
      have j2 : (O.length : Int) - 1 < (O.length : Int) := by omega
      rw [show p = O.length - 1 by omega] at d5
      have j4 : ¬ O = [] := fun e => by rw [e] at hp;exact absurd hp (Nat.lt_irrefl _)
      clear hpl
      clear N1 N2 hz hzr hzp
      go_wp2_with (first
       | (at_builtin
          refine wpList_append_one (B := W0.heap.size) (e := 82) (S := fun q => q < W0.heap.size) (by rfl) _ _ 106 (by rfl) RBinds.steady rowBindss _ O (by rfl) (HO4.out.alloc RBinds.steady _) w4.heap.size 1 #[.slice xa x.length xc] 82 (0,0) x (by rfl) (heap_alloc_new _ _) rfl (by simp [Value.oneCell']) ⟨_,rfl,(HX4.out.agree RBind.steady (Below.agree' ((ζb W0.heap.size _).alloc HB4.out.size _))).more RBind.steady (fun q hq _ => ⟨hq,fun e => by have h1 := HRW.out q e.symm;have h2 : q < W0.heap.size := hq;omega⟩)⟩ (by first | (simp;done) | omega) (by have := HB4.out.size;simp;omega) ?_
          intro v6 w6 ho6 hg6 hat6
          have HO6 := ζ ho6
          have hb6 := ((ζb W0.heap.size w4).alloc HB4.out.size (.cells #[.slice xa x.length xc] 82)).grown hg6 (by have := HB4.out.size;simp;omega) (fun q hq => HRW.out q hq)
          have HB6 := ζ (HB4.out.trans hb6)
          have HA6 := ζ (RdSlice.agree RBinds.steady (Below.agree' hb6) HA4.out)
          have HQ6 := ζ (RdSlice.agree RBinds.steady (Below.agree' hb6) HQ4.out)
          clear ho6 hg6 hat6 hb6)
       | (go_at_call 96
          refine (KL.out _ (ζb _ _)).mono ?_
          rintro e w4 ⟨rfl,hf4⟩
          have hb4 : Below W0.heap.size w3 w4 := hf4.below.mono HB3.out.size
          have HB4 := ζ (HB3.out.trans hb4)
          have HO4 := ζ (HO3.out.below RBinds.steady hf4.below)
          have HA4 := ζ (RdSlice.agree RBinds.steady (Below.agree' hb4) HA3.out)
          have HQ4 := ζ (RdSlice.agree RBinds.steady (Below.agree' hb4) HQ3.out)
          have HX4 := ζ (RdSlice.agree RBind.steady (Below.agree' hb4) HX3.out)
          clear hf4 hb4))
      go_roundw
      case rel => exact ⟨A',(y :: B'),_,by (simp only [List.length_append,List.length_cons,List.length_nil] at hle' ⊢;omega),HN,HA6,HQ6,HO6,HB6⟩
      case measure => first | (simp [lenM];done) | (simp [lenM];omega)
     ·have HN := ζ (N2.out z hz hzx)
      obtain ⟨p,hpl⟩ : ∃ p,p + 1 = O.length := ⟨O.length - 1,by omega⟩
      have hzp : O[p]? = some z := by rw [List.getLast?_eq_getElem?] at hz;rwa [show p = O.length - 1 by omega]
      obtain ⟨b5,o5,zv,hoa,hb5s,hb5,d5,hzr⟩ := RdBindss.at1 (HO3.out.read RBinds.steady) hzp
      subst hoa
      obtain ⟨za,zc,rfl,-,-,-⟩ := id hzr.form
      have hzs : z.length ≤ 1073741824 := HS.out z ((HM.out.mem z).1 (.inl (ζm hzp)))
      have KL := ζ (fun W (hW : Below w3.heap.size w3 W) => lessBindsRef (.slice za z.length zc) (.slice xa x.length xc) z x W (hzr.up hW) (HX3.out.up hW) hzs hxs)
      have hcmp : decide (cmpBinds z x < 0) = ltC cmpBinds z x := rfl
      rw [hcmp,hzx] at KL
      have j1 : (1 : Int) ≤ (O.length : Int) := by omega
      have j2 : (O.length : Int) - 1 < (O.length : Int) := by omega
      rw [show p = O.length - 1 by omega] at d5
      have j4 : ¬ O = [] := fun e => by rw [e] at hp;exact absurd hp (Nat.lt_irrefl _)
      clear hpl
      clear N1 N2 hz hzr hzp
      go_wp2_with (
       go_at_call 96
       refine (KL.out _ (ζb _ _)).mono ?_
       rintro e w4 ⟨rfl,hf4⟩
       have hb4 : Below W0.heap.size w3 w4 := hf4.below.mono HB3.out.size
       have HB4 := ζ (HB3.out.trans hb4)
       have HO4 := ζ (HO3.out.below RBinds.steady hf4.below)
       have HA4 := ζ (RdSlice.agree RBinds.steady (Below.agree' hb4) HA3.out)
       have HQ4 := ζ (RdSlice.agree RBinds.steady (Below.agree' hb4) HQ3.out)
       have HX4 := ζ (RdSlice.agree RBind.steady (Below.agree' hb4) HX3.out)
       clear hf4 hb4)
      go_wp2
      go_roundw
      case rel => exact ⟨A',(y :: B'),O,by (simp only [List.length_cons] at hle' ⊢;omega),HN,HA4,HQ4,HO4,HB4⟩
      case measure => first | (simp [lenM];done) | (simp [lenM];omega)
    ·obtain ⟨b2,o2,rfl⟩ := HBB.out.addr_some hB
     have HT0 := HBB.out.tail hB
     obtain ⟨x,B',rfl⟩ : ∃ x B',B = x :: B' := ⟨B[0],B.drop 1,by have h := drop_cons (ζe hB);simpa using h⟩
     have hx : (x :: B')[0]? = some x := rfl
     have hxm : x ∈ ls := (HM.out.mem x).1 (.inr (.inr (List.mem_cons_self ..)))
     obtain ⟨b3,o3,xv,e3,-,hb3,d3,hxr⟩ := RdBindss.at1 HBB.out hx
     injection e3 with e3
     injection e3 with e3 e4
     subst e3 e4
     rw [Nat.add_zero] at d3
     obtain ⟨xa,xc,rfl,-,-,-⟩ := id hxr.form
     have HT := ζ (show RdBindss (fun q => q < W0.heap.size) wr (.slice (if bc = 1 then some ⟨b2,o2,none⟩ else some ⟨b2,o2 + 1,none⟩) B'.length (bc - 1)) B' from HT0)
     have hle' : O.length + B'.length + A.length + 1 ≤ ls.length := by simp only [List.length_cons] at hle;omega
     have k1 : ¬ (B'.length : Int) + 1 ≤ 0 := by omega
     have k2 : (0 : Int) < (B'.length : Int) + 1 := by omega
     have k3 : (1 : Int) ≤ (B'.length : Int) + 1 := by omega
     have k4 : (1 : Int) ≤ (bc : Int) := by simp only [List.length_cons] at hbc;omega
     have k5 : ¬ (B'.length : Int) + 1 = 0 := by omega
     have k6 : ((B'.length : Int) + 1 == 0) = false := by rw [beq_eq_false_iff_ne];omega
     clear HT0 hx hbc hle
     obtain ⟨b6,o6,rfl⟩ := HA.out.addr_some hA
     obtain ⟨y,A',rfl⟩ : ∃ y A',A = y :: A' := ⟨A[0],A.drop 1,by have h := drop_cons (ζe hA);simpa using h⟩
     have hy : (y :: A')[0]? = some y := rfl
     have hym : y ∈ ls := (HM.out.mem y).1 (.inr (.inl (List.mem_cons_self ..)))
     obtain ⟨b7,o7,yv,e7,-,hb7,d7,hyr⟩ := RdBindss.at1 HA.out hy
     injection e7 with e7
     injection e7 with e7 e8
     subst e7 e8
     rw [Nat.add_zero] at d7
     obtain ⟨ya,yc,rfl,-,-,-⟩ := id hyr.form
     have l1 : ¬ (A'.length : Int) + 1 ≤ 0 := by omega
     have l2 : (0 : Int) < (A'.length : Int) + 1 := by omega
     have l5 : ¬ (A'.length : Int) + 1 = 0 := by omega
     have KS := ζ (fun W (hW : Below wr.heap.size wr W) => lessBindsRef (.slice xa x.length xc) (.slice ya y.length yc) x y W (hxr.up hW) (hyr.up hW) (HS.out x hxm) (HS.out y hym))
     have hcmp : decide (cmpBinds x y < 0) = true := hxy
     rw [hcmp] at KS
     have hM' : Mrg cmpBinds ls O (x :: B') (y :: A') := HM.out.swap
     obtain ⟨n1,n2⟩ := hM'.step cmpBinds3 (head_low cmpBinds3 HM.out.ra (ltC_asymm cmpBinds3 hcmp))
     have N1 := ζ n1
     have N2 := ζ n2
     clear hM' n1 n2 hy hcmp hxy
     go_wp2_with fail
     go_region_held3 (fun w' => w'.cell? ⟨b2,o2,none⟩ = some (.slice xa x.length xc) ∧ w'.cell? ⟨b6,o6,none⟩ = some (.slice ya y.length yc))
      (first | (with_reducible exact ⟨g3,g7⟩) | (with_reducible exact ⟨d3,d7⟩) | go_keep)
      (first | (go_at_call 96;refine (KS.out _ (ζb _ _).drew).mono ?_;rintro e w5 ⟨rfl,hf5⟩;have HB5 := ζ (show Below wr.heap.size wr w5 from (ζb _ _).drew.trans hf5.below);have g3 := (ζl HB5.out hb3 o2).trans d3;have g7 := (ζl HB5.out hb7 o6).trans d7;clear hf5))
     go_wp2_with fail
     go_quiet (fail)
     rename Nat => q2
     have hbq : Below wr.heap.size wr (w5.drewN q2) := (let h := HB5.out;⟨h.os,h.tape,h.output,h.size,h.block⟩)
     have hb5 : Below W0.heap.size wr (w5.drewN q2) := hbq.mono HB.out.size
     have HB3 := ζ (show Below W0.heap.size W0 (w5.drewN q2) from HB.out.trans hb5)
     have HO3 := ζ (show Owned 1 RBinds W0.heap.size 82 (fun q => q < W0.heap.size) (w5.drewN q2) (.slice oa O.length oc) O from HO.out.below RBinds.steady hbq)
     have HT3 := ζ (show RdBindss (fun q => q < W0.heap.size) (w5.drewN q2) _ B' from RdSlice.agree RBinds.steady (Below.agree' hb5) HT.out)
     have HU3 := ζ (show RdBindss (fun q => q < W0.heap.size) (w5.drewN q2) _ (y :: A') from RdSlice.agree RBinds.steady (Below.agree' hb5) HA.out)
     have HX3 := ζ (show RdBinds (fun q => q < W0.heap.size) (w5.drewN q2) (.slice xa x.length xc) x from hxr.agree RBind.steady (Below.agree' hb5))
     clear hxr hyr d3 d7 g3 g7 hb5 hbq KS HB5
     generalize w5.drewN q2 = w3 at *
     generalize (if bc = 1 then (some (⟨b2,o2,none⟩ : Addr)) else some ⟨b2,o2 + 1,none⟩) = ta at *
     have HA3 := HU3
     have HQ3 := HT3
     clear HT3 HU3 HT HB
     have hxs : x.length ≤ 1073741824 := HS.out x hxm
     have hO : O = [] ∨ (∃ z,O.getLast? = some z ∧ 0 < O.length ∧ ltC cmpBinds z x = true) ∨ (∃ z,O.getLast? = some z ∧ 0 < O.length ∧ ltC cmpBinds z x = false) := by
      by_cases e : O = []
      ·exact .inl e
      ·have hp : 0 < O.length := List.length_pos_iff.2 e
       cases h : ltC cmpBinds (O.getLast e) x
       ·exact .inr (.inr ⟨_,List.getLast?_eq_some_getLast e,hp,h⟩)
       ·exact .inr (.inl ⟨_,List.getLast?_eq_some_getLast e,hp,h⟩)
     rcases hO with rfl | ⟨z,hz,hp,hzx⟩ | ⟨z,hz,hp,hzx⟩
     ·have HN := ζ ((N1.out (.inl rfl)).swap)
      have HRW := ζ (fun q (hq : (Value.slice oa ([] : List Binds).length oc).ownBlock = some q) => (HO3.out.row_lt hq).1)
      clear N1 N2
      go_wp2_with (
       at_builtin
       refine wpList_append_one (B := W0.heap.size) (e := 82) (S := fun q => q < W0.heap.size) (by rfl) _ _ 106 (by rfl) RBinds.steady rowBindss _ ([] : List Binds) (by rfl) (HO3.out.alloc RBinds.steady _) w3.heap.size 1 #[.slice xa x.length xc] 82 (0,0) x (by rfl) (heap_alloc_new _ _) rfl (by simp [Value.oneCell']) ⟨_,rfl,(HX3.out.agree RBind.steady (Below.agree' ((ζb W0.heap.size _).alloc HB3.out.size _))).more RBind.steady (fun q hq _ => ⟨hq,fun e => by have h1 := HRW.out q e.symm;have h2 : q < W0.heap.size := hq;omega⟩)⟩ (by first | (simp;done) | omega) (by have := HB3.out.size;simp;omega) ?_
       intro v6 w6 ho6 hg6 hat6
       have HO6 := ζ ho6
       have hb6 := ((ζb W0.heap.size w3).alloc HB3.out.size (.cells #[.slice xa x.length xc] 82)).grown hg6 (by have := HB3.out.size;simp;omega) (fun q hq => HRW.out q hq)
       have HB6 := ζ (HB3.out.trans hb6)
       have HA6 := ζ (RdSlice.agree RBinds.steady (Below.agree' hb6) HA3.out)
       have HQ6 := ζ (RdSlice.agree RBinds.steady (Below.agree' hb6) HQ3.out)
       clear ho6 hg6 hat6 hb6)
      go_roundw
      case rel => exact ⟨(y :: A'),B',_,by (simp only [List.length_append,List.length_cons,List.length_nil] at hle' ⊢;omega),HN,HA6,HQ6,HO6,HB6⟩
      case measure => first | (simp [lenM];done) | (simp [lenM];omega)
     ·have HN := ζ ((N1.out (.inr ⟨z,hz,hzx⟩)).swap)
      have HRW := ζ (fun q (hq : (Value.slice oa O.length oc).ownBlock = some q) => (HO3.out.row_lt hq).1)
      obtain ⟨p,hpl⟩ : ∃ p,p + 1 = O.length := ⟨O.length - 1,by omega⟩
      have hzp : O[p]? = some z := by rw [List.getLast?_eq_getElem?] at hz;rwa [show p = O.length - 1 by omega]
      obtain ⟨b5,o5,zv,hoa,hb5s,hb5,d5,hzr⟩ := RdBindss.at1 (HO3.out.read RBinds.steady) hzp
      subst hoa
      obtain ⟨za,zc,rfl,-,-,-⟩ := id hzr.form
      have hzs : z.length ≤ 1073741824 := HS.out z ((HM.out.mem z).1 (.inl (ζm hzp)))
      have KL := ζ (fun W (hW : Below w3.heap.size w3 W) => lessBindsRef (.slice za z.length zc) (.slice xa x.length xc) z x W (hzr.up hW) (HX3.out.up hW) hzs hxs)
      have hcmp : decide (cmpBinds z x < 0) = ltC cmpBinds z x := rfl
      rw [hcmp,hzx] at KL
      have j1 : (1 : Int) ≤ (O.length : Int) := by omega
      have j2 : (O.length : Int) - 1 < (O.length : Int) := by omega
      rw [show p = O.length - 1 by omega] at d5
      have j4 : ¬ O = [] := fun e => by rw [e] at hp;exact absurd hp (Nat.lt_irrefl _)
      clear hpl
      clear N1 N2 hz hzr hzp
      go_wp2_with (first
       | (at_builtin
          refine wpList_append_one (B := W0.heap.size) (e := 82) (S := fun q => q < W0.heap.size) (by rfl) _ _ 106 (by rfl) RBinds.steady rowBindss _ O (by rfl) (HO4.out.alloc RBinds.steady _) w4.heap.size 1 #[.slice xa x.length xc] 82 (0,0) x (by rfl) (heap_alloc_new _ _) rfl (by simp [Value.oneCell']) ⟨_,rfl,(HX4.out.agree RBind.steady (Below.agree' ((ζb W0.heap.size _).alloc HB4.out.size _))).more RBind.steady (fun q hq _ => ⟨hq,fun e => by have h1 := HRW.out q e.symm;have h2 : q < W0.heap.size := hq;omega⟩)⟩ (by first | (simp;done) | omega) (by have := HB4.out.size;simp;omega) ?_
          intro v6 w6 ho6 hg6 hat6
          have HO6 := ζ ho6
          have hb6 := ((ζb W0.heap.size w4).alloc HB4.out.size (.cells #[.slice xa x.length xc] 82)).grown hg6 (by have := HB4.out.size;simp;omega) (fun q hq => HRW.out q hq)
          have HB6 := ζ (HB4.out.trans hb6)
          have HA6 := ζ (RdSlice.agree RBinds.steady (Below.agree' hb6) HA4.out)
          have HQ6 := ζ (RdSlice.agree RBinds.steady (Below.agree' hb6) HQ4.out)
          clear ho6 hg6 hat6 hb6)
       | (go_at_call 96
          refine (KL.out _ (ζb _ _)).mono ?_
          rintro e w4 ⟨rfl,hf4⟩
          have hb4 : Below W0.heap.size w3 w4 := hf4.below.mono HB3.out.size
          have HB4 := ζ (HB3.out.trans hb4)
          have HO4 := ζ (HO3.out.below RBinds.steady hf4.below)
          have HA4 := ζ (RdSlice.agree RBinds.steady (Below.agree' hb4) HA3.out)
          have HQ4 := ζ (RdSlice.agree RBinds.steady (Below.agree' hb4) HQ3.out)
          have HX4 := ζ (RdSlice.agree RBind.steady (Below.agree' hb4) HX3.out)
          clear hf4 hb4))
      go_roundw
      case rel => exact ⟨(y :: A'),B',_,by (simp only [List.length_append,List.length_cons,List.length_nil] at hle' ⊢;omega),HN,HA6,HQ6,HO6,HB6⟩
      case measure => first | (simp [lenM];done) | (simp [lenM];omega)
     ·have HN := ζ ((N2.out z hz hzx).swap)
      obtain ⟨p,hpl⟩ : ∃ p,p + 1 = O.length := ⟨O.length - 1,by omega⟩
      have hzp : O[p]? = some z := by rw [List.getLast?_eq_getElem?] at hz;rwa [show p = O.length - 1 by omega]
      obtain ⟨b5,o5,zv,hoa,hb5s,hb5,d5,hzr⟩ := RdBindss.at1 (HO3.out.read RBinds.steady) hzp
      subst hoa
      obtain ⟨za,zc,rfl,-,-,-⟩ := id hzr.form
      have hzs : z.length ≤ 1073741824 := HS.out z ((HM.out.mem z).1 (.inl (ζm hzp)))
      have KL := ζ (fun W (hW : Below w3.heap.size w3 W) => lessBindsRef (.slice za z.length zc) (.slice xa x.length xc) z x W (hzr.up hW) (HX3.out.up hW) hzs hxs)
      have hcmp : decide (cmpBinds z x < 0) = ltC cmpBinds z x := rfl
      rw [hcmp,hzx] at KL
      have j1 : (1 : Int) ≤ (O.length : Int) := by omega
      have j2 : (O.length : Int) - 1 < (O.length : Int) := by omega
      rw [show p = O.length - 1 by omega] at d5
      have j4 : ¬ O = [] := fun e => by rw [e] at hp;exact absurd hp (Nat.lt_irrefl _)
      clear hpl
      clear N1 N2 hz hzr hzp
      go_wp2_with (
       go_at_call 96
       refine (KL.out _ (ζb _ _)).mono ?_
       rintro e w4 ⟨rfl,hf4⟩
       have hb4 : Below W0.heap.size w3 w4 := hf4.below.mono HB3.out.size
       have HB4 := ζ (HB3.out.trans hb4)
       have HO4 := ζ (HO3.out.below RBinds.steady hf4.below)
       have HA4 := ζ (RdSlice.agree RBinds.steady (Below.agree' hb4) HA3.out)
       have HQ4 := ζ (RdSlice.agree RBinds.steady (Below.agree' hb4) HQ3.out)
       have HX4 := ζ (RdSlice.agree RBind.steady (Below.agree' hb4) HX3.out)
       clear hf4 hb4)
      go_wp2
      go_roundw
      case rel => exact ⟨(y :: A'),B',O,by (simp only [List.length_cons] at hle' ⊢;omega),HN,HA4,HQ4,HO4,HB4⟩
      case measure => first | (simp [lenM];done) | (simp [lenM];omega)
end Go.Proofs.YtdngkcieckejoaaGreat
