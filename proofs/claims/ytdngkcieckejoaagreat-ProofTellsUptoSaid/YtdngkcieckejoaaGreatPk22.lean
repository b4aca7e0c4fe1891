/-
  THE WALK OF cororef1.Strata.
-/
import Derived.Test.YtdngkcieckejoaaGreatPk21
import Derived.Lib.MinMax
namespace Go.Proofs.YtdngkcieckejoaaGreat
open Go.RowKit Go.Maps
structure HdW (w W : World) (C B : Nat) (v : Value) (l : List Str) : Prop where
 below : Below w.heap.size w W
 out : Blk W w.heap.size 49 #[.int .i64 0,.int .i64 0]
 cell : Blk W C 25 #[v]
 heads : Owned 1 RStr B 9 (fun _ => False) W v l
 lt : w.heap.size < C
 ltB : C < B
 ge : B ≤ W.heap.size
section
variable {w W W' : World} {C B : Nat} {v v' : Value} {l : List Str}
theorem HdW.next (h : HdW w W C B v l) (hb : Below W.heap.size W W') : HdW w W' C B v l :=
 ⟨h.below.trans (hb.mono h.below.size),h.out.below hb h.out.lt,h.cell.below hb h.cell.lt,h.heads.below ζS hb,h.lt,h.ltB,Nat.le_trans h.ge hb.size⟩
theorem HdW.alloc (h : HdW w W C B v l) (o : Obj) : HdW w (W.alloc o) C B v l := h.next ((ζb _ _).alloc (ζn _) o)
theorem HdW.snoc (h : HdW w W C B v l) (hg : W.grownBy W' v.ownBlock) {x : Str} (ho : Owned 1 RStr B 9 (fun _ => False) W' v' (l ++ [x])) : HdW w (W'.setCell ⟨C,0,none⟩ v') C B v' (l ++ [x]) := by
 have hrow : ∀ q,v.ownBlock = some q → B ≤ q := fun q hq => (h.heads.row_lt hq).1
 have h1 := h.lt
 have h2 := h.ltB
 refine ⟨(h.below.grown hg h.below.size (fun q hq => by have := hrow q hq;omega)).setCell (p := ⟨C,0,none⟩) (Nat.le_of_lt h1) _,(h.out.grown hg (fun e => by have := hrow _ e.symm;omega)).far (p := ⟨C,0,none⟩) (Nat.ne_of_lt h1) _,?_,ho.setCell ζS (p := ⟨C,0,none⟩) (by simp) (fun e => by have h3 : B ≤ C := (ho.row_lt e).1;omega) _,h1,h2,?_⟩
 ·exact (h.cell.grown hg (fun e => by have := hrow _ e.symm;omega)).set_ 0 v'
 ·have := h.ge
  have := hg.size
  show B ≤ (W'.setCell _ _).heap.size
  simp [World.setCell];omega
end
structure SrW (p : List PRule) (w W : World) (C LR n : Nat) (ha : Option Addr) (hc : Nat) (R O : Rel) : Prop where
 below : Below w.heap.size w W
 out : Blk W w.heap.size 49 #[.int .i64 0,.int .i64 0]
 cell : Blk W C 25 #[.slice ha p.length hc]
 heads : RdStrs (fun b => b < LR) W (.slice ha p.length hc) (headsOf p)
 reach : MapP W LR n R
 over : MapP W (LR + 1) n O
 lt : w.heap.size < C
 ltL : C < LR
section
variable {p : List PRule} {w W W' : World} {C LR n : Nat} {ha : Option Addr} {hc : Nat} {R O : Rel}
theorem SrW.big (h : SrW p w W C LR n ha hc R O) : LR + 1 < W.heap.size := h.over.lt
theorem SrW.next (h : SrW p w W C LR n ha hc R O) (hb : Below W.heap.size W W') : SrW p w W' C LR n ha hc R O :=
 ⟨h.below.trans (hb.mono h.below.size),h.out.below hb h.out.lt,h.cell.below hb h.cell.lt,h.heads.agree ζS (Below.agree hb),h.reach.below hb h.reach.lt,h.over.below hb h.over.lt,h.lt,h.ltL⟩
theorem SrW.alloc (h : SrW p w W C LR n ha hc R O) (o : Obj) : SrW p w (W.alloc o) C LR n ha hc R O := h.next ((ζb _ _).alloc (ζn _) o)
theorem SrW.grow (h : SrW p w W C LR n ha hc R O) {row : Option Nat} (hg : W.grownBy W' row) (hr : ∀ q,row = some q → LR + 1 < q) : SrW p w W' C LR n ha hc R O := by
 have h1 := h.lt
 have h2 := h.ltL
 exact ⟨h.below.grown hg h.below.size (fun q hq => by have := hr q hq;omega),h.out.grown hg (fun e => by have := hr _ e.symm;omega),h.cell.grown hg (fun e => by have := hr _ e.symm;omega),
  h.heads.agree ζS ⟨hg.size,fun b hb hlt => hg.block b hlt (fun e => by have := hr _ e.symm;omega)⟩,h.reach.kept hg (fun e => by have := hr _ e.symm;omega),h.over.kept hg (fun e => by have := hr _ e.symm;omega),h1,h2⟩
theorem SrW.putR (h : SrW p w W C LR n ha hc R O) (hn : n < maxLen) {x y : Str} (hs : PairOk (x,y)) :
 ∃ w',(Instr.mapUpdate 125 (.map (some LR)) (.agg #[.string x,.string y]) (.bool true)).run Tryz.prog W = .ok () w' ∧ SrW p w w' C LR (n + 1) ha hc (R.set x y) O ∧ W.grownBy w' (some LR) := by
 obtain ⟨w',h1,h2,hg⟩ := h.reach.put hn hs
 have k1 := h.lt
 have k2 := h.ltL
 exact ⟨w',h1,⟨h.below.grown hg h.below.size (fun q hq => by cases hq;omega),h.out.grown hg (fun e => by injection e with e;omega),h.cell.grown hg (fun e => by injection e with e;omega),
  h.heads.agree ζS ⟨hg.size,fun b hb hlt => hg.block b hlt (fun e => by injection e with e;omega)⟩,h2,(h.over.kept hg (fun e => by injection e with e;omega)).wider (Nat.le_succ n),k1,k2⟩,hg⟩
theorem SrW.putO (h : SrW p w W C LR n ha hc R O) (hn : n < maxLen) {x y : Str} (hs : PairOk (x,y)) :
 ∃ w',(Instr.mapUpdate 125 (.map (some (LR + 1))) (.agg #[.string x,.string y]) (.bool true)).run Tryz.prog W = .ok () w' ∧ SrW p w w' C LR (n + 1) ha hc R (O.set x y) ∧ W.grownBy w' (some (LR + 1)) := by
 obtain ⟨w',h1,h2,hg⟩ := h.over.put hn hs
 have k1 := h.lt
 have k2 := h.ltL
 exact ⟨w',h1,⟨h.below.grown hg h.below.size (fun q hq => by cases hq;omega),h.out.grown hg (fun e => by injection e with e;omega),h.cell.grown hg (fun e => by injection e with e;omega),
  h.heads.agree ζS ⟨hg.size,fun b hb hlt => hg.block b hlt (fun e => by injection e with e;omega)⟩,(h.reach.kept hg (fun e => by injection e with e;omega)).wider (Nat.le_succ n),h2,k1,k2⟩,hg⟩
end
structure LvW (p : List PRule) (w W : World) (C LR n : Nat) (ha : Option Addr) (hc : Nat) (R O : Rel) (LV m : Nat) (M : Str → Nat) : Prop where
 s : SrW p w W C LR n ha hc R O
 lev : MapL W LV m M
 gt : LR + 1 < LV
section
variable {p : List PRule} {w W W' : World} {C LR n : Nat} {ha : Option Addr} {hc : Nat} {R O : Rel} {LV m : Nat} {M : Str → Nat}
theorem LvW.big (h : LvW p w W C LR n ha hc R O LV m M) : LV < W.heap.size := let ⟨_,h1,_⟩ := h.lev;h1.lt
theorem LvW.alloc (h : LvW p w W C LR n ha hc R O LV m M) (o : Obj) : LvW p w (W.alloc o) C LR n ha hc R O LV m M := ⟨h.s.alloc o,let ⟨f,h1,h2⟩ := h.lev;⟨f,h1.alloc o,h2⟩,h.gt⟩
theorem LvW.grow (h : LvW p w W C LR n ha hc R O LV m M) {row : Option Nat} (hg : W.grownBy W' row) (hr : ∀ q,row = some q → LV < q) : LvW p w W' C LR n ha hc R O LV m M :=
 ⟨h.s.grow hg (fun q hq => by have := hr q hq;have := h.gt;omega),let ⟨f,h1,h2⟩ := h.lev;⟨f,h1.kept hg (fun e => by have := hr _ e.symm;omega),h2⟩,h.gt⟩
theorem LvW.put (h : LvW p w W C LR n ha hc R O LV m M) (hn : m < maxLen) {s : Str} (hs : s.size ≤ maxLen) {x : Nat} (hx : x < 1099511627776) :
 ∃ w',(Instr.mapUpdate 55 (.map (some LV)) (.string s) (.int .i64 x)).run Tryz.prog W = .ok () w' ∧ LvW p w w' C LR n ha hc R O LV (m + 1) (fun t => if t = s then x else M t) ∧ W.grownBy w' (some LV) := by
 obtain ⟨w',h1,h2,h3⟩ := h.lev.put hn hs hx
 have hgt := h.gt
 refine ⟨w',h1,⟨?_,h2,hgt⟩,h3⟩
 exact h.s.grow h3 (fun q hq => by cases hq;omega)
end
def pairsTo (p : List PRule) (k : Nat) : List (PRule × PAtom) := (p.take k).flatMap fun r => r.body.map fun x => (r,x)
theorem pairsTo_succ {p : List PRule} {k : Nat} {x : PRule} (h : p[k]? = some x) : pairsTo p (k + 1) = pairsTo p k ++ x.body.map fun y => (x,y) := by
 unfold pairsTo
 rw [List.take_add_one,h,List.flatMap_append]
 simp
theorem pairsTo_all {p : List PRule} {k : Nat} (hk : p.length ≤ k) {r : PRule} (hr : r ∈ p) {x : PAtom} (hx : x ∈ r.body) : (r,x) ∈ pairsTo p k := by
 unfold pairsTo
 rw [List.take_of_length_le hk]
 exact List.mem_flatMap.2 ⟨r,hr,List.mem_map.2 ⟨x,hx,rfl⟩⟩
theorem s2b {m g : Nat} (h : m ≤ g * 16777216) : m ≤ g * 16777216 + 0 * 1048576 := Nat.le_trans h (Nat.le_add_right _ _)
theorem s2f {m x : Nat} (h : m ≤ x) : m ≤ x + 0 := h
theorem s2e {m G k j b c : Nat} (h : m ≤ G + k * c + j) (hj : j ≤ b) (hb : b ≤ c) : m ≤ G + (k + 1) * c := by rw [Nat.succ_mul];omega
theorem s2a {m g k j b : Nat} (h : m ≤ g * 16777216 + k * 1048576 + j) (hj : j ≤ b) (hb : b ≤ 1048576) : m ≤ g * 16777216 + (k + 1) * 1048576 := s2e h hj hb
theorem s2c {m g k b : Nat} (h : m ≤ g * 16777216 + k * 1048576) (hk : k ≤ b) (hb : b ≤ 16) : m ≤ (g + 1) * 16777216 := by omega
theorem s2d {m g k j : Nat} (h : m ≤ g * 16777216 + k * 1048576 + j) : m + 1 ≤ g * 16777216 + k * 1048576 + (j + 1) := by omega
set_option maxRecDepth 100000 in
set_option maxHeartbeats 0 in
theorem strataRef {S : Nat → Prop} (p : List PRule) (v : Value) (w : World) (h : RdRules S w v p) (n1 : p.length ≤ 1048576) (n2 : ∀ r ∈ p,RuleSmall r) (n3 : ∀ r ∈ p,NameSmall r) :
 Calls Tryz.prog 45 #[v] w (StrataPost p w) := by
 obtain ⟨a,c,rfl,-,-,-⟩ := id h.form
 have H := ζ h
 have N2 := ζ n2
 have N3 := ζ n3
 clear h n2 n3
 have KW := ζ (wrongRefP p (.slice a p.length c) (w.alloc (.cells #[.int .i64 0,.int .i64 0] 49)) (H.out.agree RRule.steady ((Agree.refl _ _).alloc _)) n1 N2.out N3.out)
 have HB0 := ζ ((ζb w.heap.size w).alloc (ζn _) (.cells #[.int .i64 0,.int .i64 0] 49))
 have HF0 := ζ (Blk.new w 49 #[.int .i64 0,.int .i64 0])
 by_cases hz : (wrongP p).1 = 0
 rotate_left
 ·have HE := ζ (show StrataIs p [] (wrongP p) from .inl ⟨hz,rfl,rfl⟩)
  have hne : ((wrongP p).1 != 0) = true := by simpa using hz
  clear hz
  generalize wrongP p = q at *
  obtain ⟨q1,q2⟩ := q
  go_enter Tryz.func45,Tryz.ntmps45
  go_wp2_with (go_at_call 66;refine (KW.out).mono ?_;rintro e w1 ⟨rfl,hf1⟩;have HB1 := ζ (HB0.out.trans (hf1.mono (by simp)));have HF1 := ζ (HF0.out.below hf1 HF0.out.lt);clear hf1)
  have HF2 := ζ (HF1.out.alloc (.cells #[.int .i64 q1,.int .i64 q2] 49))
  have HB2 := ζ (HB1.out.alloc HB1.out.size (.cells #[.int .i64 q1,.int .i64 q2] 49))
  have HN2 := ζ (Blk.new w1 49 #[.int .i64 q1,.int .i64 q2])
  generalize w1.alloc (.cells #[.int .i64 q1,.int .i64 q2] 49) = w2 at *
  have k0 := HN2.out.cell 0;have k1 := HN2.out.cell 1
  have c0 := HF2.out.cell 0;have c1 := HF2.out.cell 1;have f0 := HF2.out.frozen 0;have f1 := HF2.out.frozen 1
  simp only [ζc] at c0 c1 k0 k1
  go_region_law (fail)
  all_goals
   go_wp2
   refine bodyPost_ret (v := .tuple #[.slice none 0 0,.agg #[.int .i64 q1,.int .i64 q2]]) (by simp [results,Tryz.results45,go_sem,c0,c1]) rfl (strata_ret ?_ ?_ HE.out)
   ·exact ((HB2.out.drew).setCell (ζn _) _).setCell (ζn _) _
   ·exact RdSlice.nothing (Nat.zero_le _) (fun _ => rfl)
 have hmany : p.length ≤ 16 := by
  apply Classical.byContradiction
  intro hm
  unfold wrongP at hz
  rw [if_pos (by omega)] at hz
  exact absurd hz (by decide)
 have HZ := ζ hz
 rw [hz] at KW
 generalize (wrongP p).2 = q2 at KW
 clear hz
 have hmm := @run_makeMap Tryz.prog
 have hmf : ∀ (fn : Fn) (first cap : Array Value) (w : World),(Instr.makeFunc fn first cap).run Tryz.prog w = .ok (.func fn first cap) w := fun _ _ _ _ => rfl
 go_enter Tryz.func45,Tryz.ntmps45
 go_wp2_with (go_at_call 66;refine (KW.out).mono ?_;rintro e w1 ⟨rfl,hf1⟩;have HB1 := ζ (HB0.out.trans (hf1.mono (by simp)));have HF1 := ζ (HF0.out.below hf1 HF0.out.lt);clear hf1)
 have HD0 := ζ (show HdW w ((w1.alloc (.cells #[.int .i64 0,.int .i64 q2] 49)).alloc (.cells #[.slice none 0 0] 25)) (w1.heap.size + 1) (w1.heap.size + 2) (.slice none 0 0) ((headsOf p).take 0) from by
  have h1 := HF1.out.lt
  refine ⟨(HB1.out.alloc HB1.out.size _).alloc (by simp;have := HB1.out.size;omega) _,(HF1.out.alloc _).alloc _,?_,Owned.nil,by omega,by omega,by simp⟩
  have := Blk.new (w1.alloc (.cells #[.int .i64 0,.int .i64 q2] 49)) 25 #[.slice none 0 0]
  simpa using this)
 clear HF1 HB1 HF0 HB0 KW
 generalize ((w1.alloc (.cells #[.int .i64 0,.int .i64 q2] 49)).alloc (.cells #[.slice none 0 0] 25)) = w2 at *
 generalize w1.heap.size + 2 = B at *
 generalize w1.heap.size + 1 = C at *
 have hHl : (headsOf p).length = p.length := by simp [headsOf]
 go_loopw [42] (fun i wr => ∃ (k : Nat) (v : Value),k ≤ p.length ∧ i = .int .i64 k ∧ Hid (HdW w wr C B v ((headsOf p).take k))) (fun i _ => p.length - (intOf i).toNat)
 case atStart => exact ⟨0,_,Nat.zero_le _,rfl,HD0⟩
 case round =>
  clear HD0
  obtain ⟨k,v,hk,rfl,HD⟩ := hrel
  by_cases hlt : k < p.length
  ·obtain ⟨x,hx⟩ : ∃ x,p[k]? = some x := ⟨_,ζe hlt⟩
   obtain ⟨b1,o1,tv,bv,rfl,-,hb1,d0,d1,d2,d3,htv,hbv⟩ := RdRules.at (H.out.up HD.out.below) hx
   obtain ⟨ta,tc,rfl,-,-,-⟩ := id htv.form
   obtain ⟨ba,bc,rfl,-,-,-⟩ := id hbv.form
   have HT := ζ (show (headsOf p).take (k + 1) = (headsOf p).take k ++ [x.head.name] from by
    rw [List.take_add_one]
    congr 1
    unfold headsOf
    rw [List.getElem?_map,hx];rfl)
   have htl : ((headsOf p).take k).length ≤ 16 := by rw [List.length_take];omega
   have HD1 := ζ (HD.out.alloc (.cells #[.bool x.head.neg,.string x.head.name,.slice ta x.head.terms.length tc,.slice ba x.body.length bc] 81))
   have HD2 := ζ (HD1.out.alloc (.cells #[.string x.head.name] 9))
   have c0 := HD1.out.cell.cell 0
   have c1 := HD2.out.cell.cell 0
   simp only [List.getElem?_toArray,List.getElem?_cons_zero] at c0 c1
   clear hx htv hbv
   generalize (headsOf p).take k = hs at *
   go_wp2_with (at_builtin;refine wpList_append_one (B := B) (e := 9) (S := fun _ => False) (by rfl) _ _ 25 (by rfl) ζS rowStrs _ hs (by rfl) HD2.out.heads (wr.heap.size + 1) 1 #[.string x.head.name] 9 (0,0) x.head.name (by rfl) (heap_new_at (by simp)) rfl (by simp [Value.oneCell']) rfl (by omega) HD2.out.ge ?_;intro v2 w4 hown hg4 hat4;obtain ⟨a4,c4,rfl,-,-,-⟩ := id (hown.read ζS).form;have HD4 := ζ (HD2.out.snoc hg4 hown);have c2 := (HD2.out.cell.grown hg4 (fun e => by have := (HD2.out.heads.row_lt e.symm).1;have := HD2.out.ltB;omega)).cell 0;have f2 := (HD2.out.cell.grown hg4 (fun e => by have := (HD2.out.heads.row_lt e.symm).1;have := HD2.out.ltB;omega)).frozen 0;simp only [List.getElem?_toArray,List.getElem?_cons_zero] at c2;clear hown hg4 hat4)
   simp only [List.length_append,List.length_cons,List.length_nil,Nat.zero_add] at HD4
   rw [← HT.out] at HD4
   go_wp2
   go_roundw
   case rel => exact ⟨k + 1,_,by omega,by go_num,HD4⟩
   case measure => simp [intOf];omega
  ·rw [List.take_of_length_le (show (headsOf p).length ≤ k by omega)] at HD
   obtain ⟨ha,hc,hvf,-,-,-⟩ := (HD.out.heads.read ζS).form
   rw [hHl] at hvf
   subst hvf
   have hbw := HD.out.ltB
   have hge := HD.out.ge
   have HS0 := ζ (show SrW p w ((wr.alloc (.map #[] 0)).alloc (.map #[] 0)) C wr.heap.size 0 ha hc (fun _ => false) (fun _ => false) from by
    have hs1 : (wr.alloc (.map #[] 0)).heap.size = wr.heap.size + 1 := by simp
    have h1 := (HD.out.alloc (.map #[] 0)).alloc (.map #[] 0)
    refine ⟨h1.below,h1.out,h1.cell,?_,?_,?_,HD.out.lt,by omega⟩
    ·have hr := ((HD.out.heads.read ζS).more (S' := fun b => b < wr.heap.size) ζS (fun b _ hb => hb)).agree ζS (((Agree.refl _ _).alloc (.map #[] 0)).alloc (.map #[] 0))
     exact hr
    ·have := MapP.made wr
     exact this.below ((ζb _ _).alloc (ζn _) _) this.lt
    ·have := MapP.made (wr.alloc (.map #[] 0))
     rwa [hs1] at this)
   clear HD
   go_wp2
   try simp only [World.heap_alloc_size] at *
   generalize HLR : wr.heap.size = LR at *
   have HN0 := ζ (Snd.empty p)
   have HC0 := ζ (show Cov p (p.take 0) (fun _ => false) (fun _ => false) from fun r hr => by simp at hr)
   clear hge hbw
   go_loopw [58] (fun i wr => ∃ (k n : Nat) (R O : Rel),k ≤ p.length ∧ i = .int .i64 k ∧ n ≤ k * 2097152 ∧ Hid (SrW p w wr C LR n ha hc R O) ∧ Hid (Snd p R O) ∧ Hid (Cov p (p.take k) R O)) (fun i _ => p.length - (intOf i).toNat)
   case atStart => exact ⟨0,0,_,_,Nat.zero_le _,rfl,Nat.zero_le _,HS0,HN0,HC0⟩
   case round =>
    clear HS0 HN0 HC0 HLR
    obtain ⟨k,n,R,O,hk,rfl,hn,HS,HN,HCV⟩ := hrel
    by_cases hlt : k < p.length
    ·obtain ⟨x,hx⟩ : ∃ x,p[k]? = some x := ⟨_,ζe hlt⟩
     have hmem := ζm hx
     obtain ⟨b1,o1,tv,bv,rfl,-,hb1,d0,d1,d2,d3,htv,hbv⟩ := RdRules.at H.out hx
     obtain ⟨ta,tc,rfl,-,-,-⟩ := id htv.form
     obtain ⟨ba,bc,rfl,-,-,-⟩ := id hbv.form
     have HRA := ζ (show RuleAt S w b1 (o1 + k * 4) x (.slice ta x.head.terms.length tc) (.slice ba x.body.length bc) from ⟨hb1,d0,d1,d2,d3,htv,hbv⟩)
     have HSM := ζ (N2.out x hmem)
     have HNM := ζ (N3.out x hmem)
     clear d0 d1 d2 d3
     obtain ⟨-,d0,d1,d2,d3,-,-⟩ := HRA.out.up HS.out.below
     have HTK := ζ (show p.take (k + 1) = p.take k ++ [x] from by rw [List.take_add_one,hx];rfl)
     have HMM := ζ hmem
     have HS1 := ζ (HS.out.alloc (.cells #[.bool x.head.neg,.string x.head.name,.slice ta x.head.terms.length tc,.slice ba x.body.length bc] 81))
     have HR1 := ζ (Blk.new wr 81 #[.bool x.head.neg,.string x.head.name,.slice ta x.head.terms.length tc,.slice ba x.body.length bc])
     have hwb := HS.out.big
     have hbl := HSM.out.b0
     have hhn := HNM.out.h
     clear hx hmem htv hbv
     go_wp2
     generalize HRB : wr.heap.size = RB at *
     clear HRB HS d0 d1 d2 d3
     have HCA0 := ζ (show CovA p x (x.body.take 0) R O from fun y hy => by simp at hy)
     have hn0 : n ≤ k * 2097152 + 2 * 0 := Nat.le_trans hn (Nat.le_add_right _ _)
     go_loopw [65] (fun i wr => ∃ (j n : Nat) (R O : Rel),j ≤ x.body.length ∧ i = .int .i64 j ∧ n ≤ k * 2097152 + 2 * j ∧ Hid (SrW p w wr C LR n ha hc R O) ∧ Hid (Blk wr RB 81 #[.bool x.head.neg,.string x.head.name,.slice ta x.head.terms.length tc,.slice ba x.body.length bc]) ∧ Hid (Snd p R O) ∧ Hid (Cov p (p.take k) R O) ∧ Hid (CovA p x (x.body.take j) R O)) (fun i _ => x.body.length - (intOf i).toNat)
     case atStart => exact ⟨0,n,R,O,Nat.zero_le _,rfl,hn0,HS1,HR1,HN,HCV,HCA0⟩
     case round =>
      clear HS1 HR1 HN HCV HCA0 hn hn0
      obtain ⟨j,n,R,O,hj,rfl,hn,HS,HR,HN,HCV,HCA⟩ := hrel
      by_cases hlj : j < x.body.length
      ·obtain ⟨y,hy⟩ : ∃ y,x.body[j]? = some y := ⟨_,ζe hlj⟩
       have hym := ζm hy
       obtain ⟨b4,o4,yv,rfl,-,hb4,e0,e1,e2,hyv⟩ := RdAtoms.at (HRA.out.up HS.out.below).b hy
       obtain ⟨ya,yc,rfl,-,-,-⟩ := id hyv.form
       have hyn := HNM.out.b y hym
       have HTJ := ζ (show x.body.take (j + 1) = x.body.take j ++ [y] from by rw [List.take_add_one,hy];rfl)
       have HS2 := ζ (HS.out.alloc (.cells #[.bool y.neg,.string y.name,.slice ya y.terms.length yc] 78))
       have HR2 := ζ (HR.out.alloc (.cells #[.bool y.neg,.string y.name,.slice ya y.terms.length yc] 78))
       have HA2 := ζ (Blk.new wr 78 #[.bool y.neg,.string y.name,.slice ya y.terms.length yc])
       have r1 := HR2.out.cell 1
       simp only [ζc] at r1
       have KH := ζ (headRef y.name C p.length ha hc (headsOf p) _ hHl HS2.out.cell HS2.out.heads (by omega))
       have hpo : PairOk (x.head.name,y.name) := ⟨by show x.head.name.size ≤ maxLen;unfold maxLen;omega,by show y.name.size ≤ maxLen;unfold maxLen;omega⟩
       have hwb := HS.out.big
       have hrbl := HR.out.lt
       obtain ⟨mb,hmb⟩ : ∃ mb,memS y.name (headsOf p) = mb := ⟨_,rfl⟩
       rw [hmb] at KH
       clear hy hyv
       cases mb
       ·have HCA2 := ζ (show CovA p x (x.body.take (j + 1)) R O from by
         rw [HTJ.out]
         exact HCA.out.snoc (fun hh => by have := (memS_iff _ _).2 hh;rw [hmb] at this;cases this))
        clear hmb hym
        go_wp2_with (go_at_call 67;refine (KH.out).mono ?_;rintro e w3 ⟨rfl,rfl⟩)
        go_roundw
        case rel => exact ⟨j + 1,n,R,O,by omega,by go_num,by omega,HS2,HR2,HN,HCV,HCA2⟩
        case measure => simp [intOf];omega
       ·have hyh : y.name ∈ headsOf p := (memS_iff _ _).1 hmb
        obtain ⟨w5,hput,hs5,hg5⟩ := HS2.out.putR (by unfold maxLen;omega) hpo
        have HS5 := ζ hs5
        have HR5 := ζ (HR2.out.grown hg5 (fun e => by injection e with e;omega))
        have HA5 := ζ (HA2.out.grown hg5 (fun e => by injection e with e;omega))
        have HN5 := ζ (HN.out.edge HMM.out hym)
        have HCV5 := ζ (HCV.out.more (R' := R.set x.head.name y.name) (O' := O) (fun t ht => R.set_le _ _ ht) (fun _ h => h))
        have a0 := HA5.out.cell 0
        have a1 := HA5.out.cell 1
        have r5 := HR5.out.cell 1
        simp only [ζc] at a0 a1 r5
        cases hyg : y.neg
        ·have HCA5 := ζ (show CovA p x (x.body.take (j + 1)) (R.set x.head.name y.name) O from by
          rw [HTJ.out]
          exact (HCA.out.more (fun t ht => R.set_le _ _ ht) (fun _ h => h)).snoc (fun _ => ⟨R.set_same _ _,fun e => by rw [hyg] at e;cases e⟩))
         rw [hyg] at a0 hput KH HS2 HR2 e0 r1
         clear hmb hym hg5 hs5 hyg HS HR HN HCV HCA
         go_wp2_with (go_at_call 67;refine (KH.out).mono ?_;rintro e w3 ⟨rfl,rfl⟩)
         go_roundw
         case rel => exact ⟨j + 1,n + 1,_,O,by omega,by go_num,by omega,HS5,HR5,HN5,HCV5,HCA5⟩
         case measure => simp [intOf];omega
        ·obtain ⟨w7,hput2,hs7,hg7⟩ := HS5.out.putO (by unfold maxLen;omega) hpo
         have HS7 := ζ hs7
         have HR7 := ζ (HR5.out.grown hg7 (fun e => by injection e with e;omega))
         have HN7 := ζ (HN5.out.nedge HMM.out hym hyg hyh)
         have HCV7 := ζ (HCV5.out.more (R' := R.set x.head.name y.name) (O' := O.set x.head.name y.name) (fun _ h => h) (fun t ht => O.set_le _ _ ht))
         have HCA7 := ζ (show CovA p x (x.body.take (j + 1)) (R.set x.head.name y.name) (O.set x.head.name y.name) from by
          rw [HTJ.out]
          exact (HCA.out.more (fun t ht => R.set_le _ _ ht) (fun t ht => O.set_le _ _ ht)).snoc (fun _ => ⟨R.set_same _ _,fun _ => O.set_same _ _⟩))
         rw [hyg] at a0 hput KH HS2 HR2 e0 r1
         clear hmb hym hg5 hs5 hg7 hs7 hyg HS HR HN HCV HCA
         go_wp2_with (go_at_call 67;refine (KH.out).mono ?_;rintro e w3 ⟨rfl,rfl⟩)
         go_roundw
         case rel => exact ⟨j + 1,n + 2,_,_,by omega,by go_num,by omega,HS7,HR7,HN7,HCV7,HCA7⟩
         case measure => simp [intOf];omega
      ·have HCV2 := ζ (show Cov p (p.take (k + 1)) R O from by
        rw [HTK.out]
        refine HCV.out.snoc ?_
        have := HCA.out
        rwa [List.take_of_length_le (by omega)] at this)
       clear HCV HCA
       go_wp2
       go_roundw
       case rel => exact ⟨k + 1,n,R,O,by omega,by go_num,by omega,HS,HN,HCV2⟩
       case measure => simp [intOf];omega
    ·rw [List.take_of_length_le (show p.length ≤ k by omega)] at HCV
     have HWS := ζ (Wsh.start HCV.out)
     clear HCV
     have hn1 : n ≤ 33554432 := by
      have : k * 2097152 ≤ 16 * 2097152 := Nat.mul_le_mul_right _ (by omega)
      omega
     have c0 := HS.out.cell.cell 0
     simp only [List.getElem?_toArray,List.getElem?_cons_zero] at c0
     clear hn
     go_wp2
     clear c0
     have hn2 : n ≤ 33554432 + 0 * 512 := Nat.le_trans hn1 (Nat.le_add_right _ _)
     go_loopw [93] (fun i wr => ∃ (m n : Nat) (R O : Rel),m ≤ p.length ∧ i = .int .i64 m ∧ n ≤ 33554432 + m * 512 ∧ Hid (SrW p w wr C LR n ha hc R O) ∧ Hid (Snd p R O) ∧ Hid (Wsh p m R O)) (fun i _ => p.length - (intOf i).toNat)
     case atStart => exact ⟨0,n,R,O,Nat.zero_le _,rfl,hn2,HS,HN,HWS⟩
     case round =>
      clear HS HN HWS hn1 hn2
      obtain ⟨m,n,R0,O0,hm,rfl,hn,HS,HN,HWS⟩ := hrel
      by_cases hlm : m < p.length
      ·obtain ⟨kk,hkk⟩ : ∃ kk,(headsOf p)[m]? = some kk := ⟨_,ζe (by omega)⟩
       obtain ⟨g1,q1,rfl,-,-,l1⟩ := RdStrs.at HS.out.heads hkk
       have hksz : kk.size ≤ maxLen := by
        obtain ⟨r,hr,e⟩ := List.mem_map.1 (ζm hkk)
        have := (N3.out r hr).h
        rw [← e];unfold maxLen;omega
       have HKK := ζ hkk
       have c0 := HS.out.cell.cell 0
       simp only [List.getElem?_toArray,List.getElem?_cons_zero] at c0
       have HM0 := ζ (show Mid R0 O0 R0 O0 kk (fun a b => a ∈ (headsOf p).take 0 ∧ b ∈ headsOf p) from (Mid.start R0 O0 kk).weak (fun a b h => by simp at h))
       clear hkk
       go_wp2
       clear c0 l1
       have hn0 : n ≤ 33554432 + m * 512 + 0 * 32 := Nat.le_trans hn (Nat.le_add_right _ _)
       go_loopw [99] (fun i wr => ∃ (i' n : Nat) (R O : Rel),i' ≤ p.length ∧ i = .int .i64 i' ∧ n ≤ 33554432 + m * 512 + i' * 32 ∧ Hid (SrW p w wr C LR n (some ⟨g1,q1,none⟩) hc R O) ∧ Hid (Snd p R O) ∧ Hid (Mid R0 O0 R O kk (fun a b => a ∈ (headsOf p).take i' ∧ b ∈ headsOf p))) (fun i _ => p.length - (intOf i).toNat)
       case atStart => exact ⟨0,n,R0,O0,Nat.zero_le _,rfl,hn0,HS,HN,HM0⟩
       case round =>
        clear HS HN HM0 hn hn0
        obtain ⟨i',n,R,O,hi,rfl,hn,HS,HN,HM⟩ := hrel
        by_cases hli : i' < p.length
        ·obtain ⟨aa,haa⟩ : ∃ aa,(headsOf p)[i']? = some aa := ⟨_,ζe (by omega)⟩
         obtain ⟨g2,q2',e2,-,-,l2⟩ := RdStrs.at HS.out.heads haa
         injection e2 with e2
         injection e2 with e3 e4
         subst e3 e4
         have hasz : aa.size ≤ maxLen := by
          obtain ⟨r,hr,e⟩ := List.mem_map.1 (ζm haa)
          have := (N3.out r hr).h
          rw [← e];unfold maxLen;omega
         have HAA := ζ haa
         have c0 := HS.out.cell.cell 0
         simp only [List.getElem?_toArray,List.getElem?_cons_zero] at c0
         have HM0 := ζ (show Mid R0 O0 R O kk (fun a b => (a ∈ (headsOf p).take i' ∧ b ∈ headsOf p) ∨ (a = aa ∧ b ∈ (headsOf p).take 0)) from HM.out.weak (fun a b h => h.elim id (fun h => by simp at h)))
         clear haa HM
         go_wp2
         clear c0 l2
         have hn0 : n ≤ 33554432 + m * 512 + i' * 32 + 0 * 2 := Nat.le_trans hn (Nat.le_add_right _ _)
         go_loopw [105] (fun i wr => ∃ (j n : Nat) (R O : Rel),j ≤ p.length ∧ i = .int .i64 j ∧ n ≤ 33554432 + m * 512 + i' * 32 + j * 2 ∧ Hid (SrW p w wr C LR n (some ⟨g1,q1,none⟩) hc R O) ∧ Hid (Snd p R O) ∧ Hid (Mid R0 O0 R O kk (fun a b => (a ∈ (headsOf p).take i' ∧ b ∈ headsOf p) ∨ (a = aa ∧ b ∈ (headsOf p).take j)))) (fun i _ => p.length - (intOf i).toNat)
         case atStart => exact ⟨0,n,R,O,Nat.zero_le _,rfl,hn0,HS,HN,HM0⟩
         case round =>
          clear HS HN HM0 hn hn0
          obtain ⟨j,n,R,O,hj,rfl,hn,HS,HN,HM⟩ := hrel
          by_cases hlj : j < p.length
          ·obtain ⟨bb,hbb⟩ : ∃ bb,(headsOf p)[j]? = some bb := ⟨_,ζe (by omega)⟩
           obtain ⟨g3,q3',e2,-,-,l3⟩ := RdStrs.at HS.out.heads hbb
           injection e2 with e2
           injection e2 with e3 e4
           subst e3 e4
           have hbsz : bb.size ≤ maxLen := by
            obtain ⟨r,hr,e⟩ := List.mem_map.1 (ζm hbb)
            have := (N3.out r hr).h
            rw [← e];unfold maxLen;omega
           have HW := ζ (fun (R' O' : Rel) (h : Mid R0 O0 R' O' kk (fun x y => ((x ∈ (headsOf p).take i' ∧ y ∈ headsOf p) ∨ (x = aa ∧ y ∈ (headsOf p).take j)) ∨ (x = aa ∧ y = bb))) => show Mid R0 O0 R' O' kk (fun x y => (x ∈ (headsOf p).take i' ∧ y ∈ headsOf p) ∨ (x = aa ∧ y ∈ (headsOf p).take (j + 1))) from h.weak (fun x y hxy => by
            rcases hxy with hxy | ⟨rfl,hy⟩
            ·exact .inl (.inl hxy)
            ·rw [List.take_add_one,hbb] at hy
             rcases List.mem_append.1 hy with hy | hy
             ·exact .inl (.inr ⟨rfl,hy⟩)
             ·exact .inr ⟨rfl,by simpa using hy⟩))
           have hwb := HS.out.big
           have HS1 := ζ (HS.out.alloc (.cells #[.string aa,.string kk] 126))
           have HS2 := ζ (HS1.out.alloc (.cells #[.string kk,.string bb] 126))
           have HX2 := ζ ((Blk.new wr 126 #[.string aa,.string kk]).alloc (.cells #[.string kk,.string bb] 126))
           have HY2 := ζ (show Blk ((wr.alloc (.cells #[.string aa,.string kk] 126)).alloc (.cells #[.string kk,.string bb] 126)) (wr.heap.size + 1) 126 #[.string kk,.string bb] from by
            have := Blk.new (wr.alloc (.cells #[.string aa,.string kk] 126)) 126 #[.string kk,.string bb]
            simpa using this)
           have hg1 := HS2.out.reach.get (s := (aa,kk)) ⟨hasz,hksz⟩
           have hg2 := HS2.out.reach.get (s := (kk,bb)) ⟨hksz,hbsz⟩
           have hmb : m * 512 ≤ 16 * 512 := Nat.mul_le_mul_right _ (by omega)
           dsimp only at hg1 hg2
           clear hbb
           cases hr1 : R (aa,kk)
           ·rw [hr1] at hg1
            have HM2 := ζ (HW.out R O (HM.out.skip (by rw [hr1];rfl)))
            clear hr1 HW HM hmb
            go_wp2
            go_roundw
            case rel => exact ⟨j + 1,n,R,O,by omega,by go_num,by omega,HS2,HN,HM2⟩
            case measure => simp [intOf];omega
           cases hr2 : R (kk,bb)
           ·rw [hr1] at hg1
            rw [hr2] at hg2
            have HM2 := ζ (HW.out R O (HM.out.skip (by rw [hr2];simp)))
            clear hr1 hr2 HW HM hmb
            go_wp2
            go_roundw
            case rel => exact ⟨j + 1,n,R,O,by omega,by go_num,by omega,HS2,HN,HM2⟩
            case measure => simp [intOf];omega
           rw [hr1] at hg1
           rw [hr2] at hg2
           obtain ⟨w5,hput,hs5,hg5⟩ := HS2.out.putR (by unfold maxLen;omega) (show PairOk (aa,bb) from ⟨hasz,hbsz⟩)
           have HS5 := ζ hs5
           have HX5 := ζ (HX2.out.grown hg5 (fun e => by injection e with e;omega))
           have HY5 := ζ (HY2.out.grown hg5 (fun e => by injection e with e;omega))
           have x0 := HX5.out.cell 0
           have x1 := HX5.out.cell 1
           have y0 := HY5.out.cell 0
           have y1 := HY5.out.cell 1
           simp only [ζc] at x0 x1 y0 y1
           have HN5 := ζ (HN.out.join hr1 hr2)
           have ho1 := HS5.out.over.get (s := (aa,kk)) ⟨hasz,hksz⟩
           have ho2 := HS5.out.over.get (s := (kk,bb)) ⟨hksz,hbsz⟩
           dsimp only at ho1 ho2
           clear hs5 hg5
           obtain ⟨p1,hp1⟩ : ∃ b,O (aa,kk) = b := ⟨_,rfl⟩
           obtain ⟨p2,hp2⟩ : ∃ b,O (kk,bb) = b := ⟨_,rfl⟩
           rw [hp1] at ho1
           rw [hp2] at ho2
           by_cases hpp : (p1 || p2) = false
           ·have HM5 := ζ (HW.out _ _ (HM.out.reach (a := aa) (b := bb) (by rw [hp1,hp2];exact hpp)))
            rw [Bool.or_eq_false_iff] at hpp
            obtain ⟨rfl,rfl⟩ := hpp
            clear hr1 hr2 HW HM hmb HN HS hp1 hp2
            go_wp2
            go_roundw
            case rel => exact ⟨j + 1,n + 1,_,O,by omega,by go_num,by omega,HS5,HN5,HM5⟩
            case measure => simp [intOf];omega
           ·have hpt : p1 = true ∨ p2 = true := by cases p1 <;> cases p2 <;> simp at hpp ⊢
            obtain ⟨w7,hput2,hs7,-⟩ := HS5.out.putO (by unfold maxLen;omega) (show PairOk (aa,bb) from ⟨hasz,hbsz⟩)
            have HS7 := ζ hs7
            have HN7 := ζ (HN5.out.joinO (R.set_le _ _ hr1) (R.set_le _ _ hr2) (by rw [hp1,hp2];exact hpt))
            have HM7 := ζ (HW.out _ _ (HM.out.over (a := aa) (b := bb)))
            have HPT := ζ hpt
            clear hr1 hr2 HW HM hmb HN HS hp1 hp2 hs7 hpp hpt
            cases p1
            ·have hq : p2 = true := HPT.out.elim (fun h => by cases h) id
             subst hq
             go_wp2
             go_roundw
             case rel => exact ⟨j + 1,n + 2,_,_,by omega,by go_num,by omega,HS7,HN7,HM7⟩
             case measure => simp [intOf];omega
            ·go_wp2
             go_roundw
             case rel => exact ⟨j + 1,n + 2,_,_,by omega,by go_num,by omega,HS7,HN7,HM7⟩
             case measure => simp [intOf];omega
          ·have HM2 := ζ (show Mid R0 O0 R O kk (fun a b => a ∈ (headsOf p).take (i' + 1) ∧ b ∈ headsOf p) from HM.out.weak (fun x y hxy => by
            obtain ⟨hx,hy⟩ := hxy
            rw [List.take_add_one,HAA.out] at hx
            rcases List.mem_append.1 hx with hx | hx
            ·exact .inl ⟨hx,hy⟩
            ·exact .inr ⟨by simpa using hx,by rwa [List.take_of_length_le (by omega)]⟩))
           have hn3 : n ≤ 33554432 + m * 512 + (i' + 1) * 32 := by
            have : j * 2 ≤ 32 := by omega
            omega
           clear HM hn
           go_wp2
           go_roundw
           case rel => exact ⟨i' + 1,n,R,O,by omega,by go_num,hn3,HS,HN,HM2⟩
           case measure => simp [intOf];omega
        ·have HW2 := ζ (show Wsh p (m + 1) R O from HWS.out.next HKK.out (HM.out.weak (fun x y hxy => ⟨by rw [List.take_of_length_le (by omega)];exact hxy.1,hxy.2⟩)))
         have hn3 : n ≤ 33554432 + (m + 1) * 512 := by
          have : i' * 32 ≤ 512 := by omega
          omega
         clear HM hn HWS
         go_wp2
         go_roundw
         case rel => exact ⟨m + 1,n,R,O,by omega,by go_num,hn3,HS,HN,HW2⟩
         case measure => simp [intOf];omega
      ·have hml : m = (headsOf p).length := by omega
       have HWF := ζ (show Wsh p (headsOf p).length R0 O0 from hml ▸ HWS.out)
       clear HWS
       have HNO0 := ζ (show ∀ x ∈ (headsOf p).take 0,O0 (x,x) = false from fun x hx => by simp at hx)
       have hn9 : n ≤ 134217728 := by
        have : m * 512 ≤ 16 * 512 := Nat.mul_le_mul_right _ (by omega)
        omega
       have c0 := HS.out.cell.cell 0
       simp only [List.getElem?_toArray,List.getElem?_cons_zero] at c0
       clear hn
       clear hml hm
       go_wp2
       clear c0
       go_loopw [144] (fun i wr => ∃ (k : Nat),k ≤ p.length ∧ i = .int .i64 k ∧ Hid (SrW p w wr C LR n ha hc R0 O0) ∧ Hid (∀ x ∈ (headsOf p).take k,O0 (x,x) = false)) (fun i _ => p.length - (intOf i).toNat)
       case atStart => exact ⟨0,Nat.zero_le _,rfl,HS,HNO0⟩
       case round =>
        clear HS HNO0
        obtain ⟨k,hk,rfl,HS,HNO⟩ := hrel
        by_cases hlk : k < p.length
        ·obtain ⟨aa,haa⟩ : ∃ aa,(headsOf p)[k]? = some aa := ⟨_,ζe (by omega)⟩
         obtain ⟨g1,q1,rfl,-,-,l1⟩ := RdStrs.at HS.out.heads haa
         have hasz : aa.size ≤ maxLen := by
          obtain ⟨r,hr,e⟩ := List.mem_map.1 (ζm haa)
          have := (N3.out r hr).h
          rw [← e];unfold maxLen;omega
         have hg1 := HS.out.over.get (s := (aa,aa)) ⟨hasz,hasz⟩
         dsimp only at hg1
         cases ho : O0 (aa,aa)
         ·rw [ho] at hg1
          have HNO2 := ζ (show ∀ x ∈ (headsOf p).take (k + 1),O0 (x,x) = false from fun x hx => by
           rw [List.take_add_one,haa] at hx
           rcases List.mem_append.1 hx with hx | hx
           ·exact HNO.out x hx
           ·obtain rfl : x = aa := by simpa using hx
            exact ho)
          clear ho haa
          go_wp2
          go_roundw
          case rel => exact ⟨k + 1,by omega,by go_num,HS,HNO2⟩
          case measure => simp [intOf];omega
         ·rw [ho] at hg1
          have HE := ζ (show StrataIs p [] (10,0) from .inr ⟨HZ.out,.inr ⟨HN.out.loop ho,rfl,rfl⟩⟩)
          have c0 := HS.out.out.cell 0;have c1 := HS.out.out.cell 1;have f0 := HS.out.out.frozen 0;have f1 := HS.out.out.frozen 1
          simp only [ζc] at c0 c1
          clear ho haa
          go_wp2
          refine bodyPost_ret (v := .tuple #[.slice none 0 0,.agg #[.int .i64 10,.int .i64 0]]) (by simp [results,Tryz.results45,go_sem,c0,c1]) rfl (strata_ret ?_ ?_ HE.out)
          ·exact ((HS.out.below).setCell (ζn _) _).setCell (ζn _) _
          ·exact RdSlice.nothing (Nat.zero_le _) (fun _ => rfl)
        ·have HNOF : ∀ x ∈ headsOf p,O0 (x,x) = false := by
          have := HNO.out;rwa [List.take_of_length_le (by omega)] at this
         obtain ⟨L,hL⟩ : ∃ L,Least p L := by
          obtain ⟨N,hN⟩ := HWF.out.sol HNOF
          exact exists_least hN
         have HL := ζ hL
         have HLB := ζ (show ∀ s,L s ≤ 16 from fun s => by
          by_cases hs : s ∈ headsOf p
          ·have := hL.bound (fun x hx => hx) hs
           omega
          ·rw [hL.sol.out s hs];omega)
         have hHw := HS.out.big
         have HV0 := ζ (show LvW p w (wr.alloc (.map #[] 0)) C LR n ha hc R0 O0 wr.heap.size 0 (fun _ => 0) from
          ⟨HS.out.alloc _,⟨_,MapI.made wr,fun _ => rfl⟩,hHw⟩)
         have c0 := HV0.out.s.cell.cell 0
         simp only [List.getElem?_toArray,List.getElem?_cons_zero] at c0
         clear hL HNOF HNO HWF HN HS
         go_wp2
         generalize HLV : wr.heap.size = LV at *
         clear HLV hHw c0
         have hz0 : (0 : Nat) ≤ 0 * 16777216 := by omega
         have HU0 := ζ (show (∀ s,(fun _ => 0 : Str → Nat) s ≤ L s) ∧ unset p L (fun _ => 0) ≤ p.length - 0 from ⟨fun _ => Nat.zero_le _,unset_start⟩)
         go_loopw [159] (fun i wr => ∃ (g m : Nat) (M : Str → Nat),g ≤ p.length + 1 ∧ i = .int .i64 g ∧ m ≤ g * 16777216 ∧ Hid (LvW p w wr C LR n ha hc R0 O0 LV m M) ∧ Hid ((∀ s,M s ≤ L s) ∧ unset p L M ≤ p.length - g)) (fun i _ => p.length + 1 - (intOf i).toNat)
         case atStart => exact ⟨0,0,_,Nat.zero_le _,rfl,hz0,HV0,HU0⟩
         case round =>
          clear HV0 HU0 hz0
          obtain ⟨g,m0,M0,hg,rfl,hm0,HV,HU⟩ := hrel
          by_cases hlg : g < p.length + 1
          ·have hdg : decide ((g : Int) < (p.length : Int) + 1) = true := decide_eq_true (by omega)
           have HR0 := ζ (show Rnd p L M0 M0 (pairsTo p 0) from Rnd.start HU.out.1)
           have hm1 : m0 ≤ g * 16777216 + 0 * 1048576 := s2b hm0
           go_wp2
           go_loopw [163] (fun i wr => ∃ (k m : Nat) (M : Str → Nat),k ≤ p.length ∧ i = .int .i64 k ∧ m ≤ g * 16777216 + k * 1048576 ∧ Hid (LvW p w wr C LR n ha hc R0 O0 LV m M) ∧ Hid (Rnd p L M0 M (pairsTo p k))) (fun i _ => p.length - (intOf i).toNat)
           case atStart => exact ⟨0,m0,M0,Nat.zero_le _,rfl,hm1,HV,HR0⟩
           case round =>
            clear HV HR0 hm1 hm0
            obtain ⟨k,m0,M,hk,rfl,hm0,HV,HRN⟩ := hrel
            by_cases hlk : k < p.length
            ·obtain ⟨x,hx⟩ : ∃ x,p[k]? = some x := ⟨_,ζe hlk⟩
             have hmem := ζm hx
             obtain ⟨b1,o1,tv,bv,rfl,-,hb1,d0,d1,d2,d3,htv,hbv⟩ := RdRules.at H.out hx
             obtain ⟨ta,tc,rfl,-,-,-⟩ := id htv.form
             obtain ⟨ba,bc,rfl,-,-,-⟩ := id hbv.form
             have HRA := ζ (show RuleAt S w b1 (o1 + k * 4) x (.slice ta x.head.terms.length tc) (.slice ba x.body.length bc) from ⟨hb1,d0,d1,d2,d3,htv,hbv⟩)
             have HSM := ζ (N2.out x hmem)
             have HNM := ζ (N3.out x hmem)
             have HPT := ζ (pairsTo_succ hx)
             clear d0 d1 d2 d3
             obtain ⟨-,d0,d1,d2,d3,-,-⟩ := HRA.out.up HV.out.s.below
             have HMM := ζ hmem
             have HV1 := ζ (HV.out.alloc (.cells #[.bool x.head.neg,.string x.head.name,.slice ta x.head.terms.length tc,.slice ba x.body.length bc] 81))
             have HR1 := ζ (Blk.new wr 81 #[.bool x.head.neg,.string x.head.name,.slice ta x.head.terms.length tc,.slice ba x.body.length bc])
             have hwb := HV.out.big
             have hbl := HSM.out.b0
             have hhn := HNM.out.h
             clear hx hmem htv hbv
             go_wp2
             generalize HRB : wr.heap.size = RB at *
             clear HRB HV d0 d1 d2 d3
             have hm1 : m0 ≤ g * 16777216 + k * 1048576 + 0 := s2f hm0
             have HRN0 := ζ (show Rnd p L M0 M (pairsTo p k ++ (x.body.take 0).map fun y => (x,y)) from by simpa using HRN.out)
             go_loopw [170] (fun i wr => ∃ (j m : Nat) (M : Str → Nat),j ≤ x.body.length ∧ i = .int .i64 j ∧ m ≤ g * 16777216 + k * 1048576 + j ∧ Hid (LvW p w wr C LR n ha hc R0 O0 LV m M) ∧ Hid (Blk wr RB 81 #[.bool x.head.neg,.string x.head.name,.slice ta x.head.terms.length tc,.slice ba x.body.length bc]) ∧ Hid (Rnd p L M0 M (pairsTo p k ++ (x.body.take j).map fun y => (x,y)))) (fun i _ => x.body.length - (intOf i).toNat)
             case atStart => exact ⟨0,m0,M,Nat.zero_le _,rfl,hm1,HV1,HR1,HRN0⟩
             case round =>
              clear HV1 HR1 HRN HRN0 hm1 hm0
              obtain ⟨j,m1,M,hj,rfl,hm1,HV,HR,HRN⟩ := hrel
              by_cases hlj : j < x.body.length
              ·obtain ⟨y,hy⟩ : ∃ y,x.body[j]? = some y := ⟨_,ζe hlj⟩
               have hym := ζm hy
               obtain ⟨b4,o4,yv,rfl,-,hb4,e0,e1,e2,hyv⟩ := RdAtoms.at (HRA.out.up HV.out.s.below).b hy
               obtain ⟨ya,yc,rfl,-,-,-⟩ := id hyv.form
               have hyn := HNM.out.b y hym
               have HTJ := ζ (show (x.body.take (j + 1)).map (fun y => (x,y)) = (x.body.take j).map (fun y => (x,y)) ++ [(x,y)] from by rw [List.take_add_one,hy];simp)
               have HV2 := ζ (HV.out.alloc (.cells #[.bool y.neg,.string y.name,.slice ya y.terms.length yc] 78))
               have HR2 := ζ (HR.out.alloc (.cells #[.bool y.neg,.string y.name,.slice ya y.terms.length yc] 78))
               have r1 := HR2.out.cell 1
               simp only [ζc] at r1
               have KH := ζ (headRef y.name C p.length ha hc (headsOf p) _ hHl HV2.out.s.cell HV2.out.s.heads (by omega))
               have hwb2 := HV.out.big
               have hrbl := HR.out.lt
               have hg1 := HV2.out.lev.get (s := y.name) (by unfold maxLen;omega)
               have hg2 := HV2.out.lev.get (s := x.head.name) (by unfold maxLen;omega)
               obtain ⟨d,hdd,hcase⟩ : ∃ d,dl p y = d ∧ ((y.neg = false ∧ d = 0) ∨ (y.neg = true ∧ memS y.name (headsOf p) = false ∧ d = 0) ∨ (y.neg = true ∧ memS y.name (headsOf p) = true ∧ d = 1)) := by
                refine ⟨_,rfl,?_⟩
                unfold dl
                cases hn : y.neg
                ·exact .inl ⟨rfl,by simp⟩
                ·cases hm : memS y.name (headsOf p)
                 ·exact .inr (.inl ⟨rfl,rfl,if_neg (fun h => by have := (memS_iff _ _).2 h.2;rw [hm] at this;cases this)⟩)
                 ·exact .inr (.inr ⟨rfl,rfl,if_pos ⟨rfl,(memS_iff _ _).1 hm⟩⟩)
               have hM1 := HRN.out.le y.name
               have hM2 := HRN.out.le x.head.name
               have hL1 := HLB.out y.name
               have hL2 := HLB.out x.head.name
               have HRN2 := ζ (show Rnd p L M0 (lift M x.head.name (M y.name + dl p y)) (pairsTo p k ++ (x.body.take (j + 1)).map fun y => (x,y)) from by
                rw [HTJ.out,← List.append_assoc]
                exact HRN.out.step HL.out.sol HMM.out hym)
               obtain ⟨w5,hput,hw5,hgr5⟩ := HV2.out.put (s := x.head.name) (x := max (M x.head.name) (M y.name + dl p y)) (by unfold maxLen;omega) (by unfold maxLen;omega) (by rw [hdd];rcases hcase with ⟨-,h⟩ | ⟨-,-,h⟩ | ⟨-,-,h⟩ <;> omega)
               have HV5 := ζ (show LvW p w w5 C LR n ha hc R0 O0 LV (m1 + 1) (lift M x.head.name (M y.name + dl p y)) from hw5)
               have HR5 := ζ (HR2.out.grown hgr5 (fun e => by injection e with e;omega))
               rw [hdd] at hput
               generalize lift M x.head.name (M y.name + dl p y) = M5 at *
               clear hy hym hyv hdd HV HR HRN hw5 hgr5
               generalize M y.name = q1 at *
               generalize M x.head.name = q2 at *
               generalize memS y.name (headsOf p) = mb at *
               have hw1 : IntKind.i64.wrap ((q1 : Int) + 1) = (q1 : Int) + 1 := by rw [IntKind.wrap_i64];omega
               rcases hcase with ⟨hn,rfl⟩ | ⟨hn,rfl,rfl⟩ | ⟨hn,rfl,rfl⟩
               ·rw [hn] at e0 HV2 HR2 hg1 hg2 r1 hput KH
                by_cases hle : q1 ≤ q2
                ·have i1 : ¬ ((q2 : Int) < (q1 : Int)) := by omega
                 have i2 : max (q2 : Int) ((q1 : Int)) = (q2 : Int) := by omega
                 have hput2 := hput
                 rw [show max q2 (q1 + 0) = q2 by omega] at hput2
                 clear hn hput hle
                 go_wp2
                 go_roundw
                 case rel => exact ⟨j + 1,m1 + 1,M5,by omega,by go_num,s2d hm1,HV5,HR5,HRN2⟩
                 case measure => simp [intOf];omega
                ·have i1 : ((q2 : Int) < (q1 : Int)) := by omega
                 have i2 : max (q2 : Int) ((q1 : Int)) = (q1 : Int) := by omega
                 have hput2 := hput
                 rw [show max q2 (q1 + 0) = q1 by omega] at hput2
                 clear hn hput hle
                 go_wp2
                 go_roundw
                 case rel => exact ⟨j + 1,m1 + 1,M5,by omega,by go_num,s2d hm1,HV5,HR5,HRN2⟩
                 case measure => simp [intOf];omega
               ·rw [hn] at e0 HV2 HR2 hg1 hg2 r1 hput KH
                by_cases hle : q1 ≤ q2
                ·have i1 : ¬ ((q2 : Int) < (q1 : Int)) := by omega
                 have i2 : max (q2 : Int) ((q1 : Int)) = (q2 : Int) := by omega
                 have hput2 := hput
                 rw [show max q2 (q1 + 0) = q2 by omega] at hput2
                 clear hn hput hle
                 go_wp2_with (go_at_call 67;refine (KH.out).mono ?_;rintro e w3 ⟨rfl,rfl⟩)
                 go_roundw
                 case rel => exact ⟨j + 1,m1 + 1,M5,by omega,by go_num,s2d hm1,HV5,HR5,HRN2⟩
                 case measure => simp [intOf];omega
                ·have i1 : ((q2 : Int) < (q1 : Int)) := by omega
                 have i2 : max (q2 : Int) ((q1 : Int)) = (q1 : Int) := by omega
                 have hput2 := hput
                 rw [show max q2 (q1 + 0) = q1 by omega] at hput2
                 clear hn hput hle
                 go_wp2_with (go_at_call 67;refine (KH.out).mono ?_;rintro e w3 ⟨rfl,rfl⟩)
                 go_roundw
                 case rel => exact ⟨j + 1,m1 + 1,M5,by omega,by go_num,s2d hm1,HV5,HR5,HRN2⟩
                 case measure => simp [intOf];omega
               ·rw [hn] at e0 HV2 HR2 hg1 hg2 r1 hput KH
                by_cases hle : q1 + 1 ≤ q2
                ·have i1 : ¬ ((q2 : Int) < (q1 : Int) + 1) := by omega
                 have i2 : max (q2 : Int) ((q1 : Int) + 1) = (q2 : Int) := by omega
                 have hput2 := hput
                 rw [show max q2 (q1 + 1) = q2 by omega] at hput2
                 clear hn hput hle
                 go_wp2_with (go_at_call 67;refine (KH.out).mono ?_;rintro e w3 ⟨rfl,rfl⟩)
                 go_roundw
                 case rel => exact ⟨j + 1,m1 + 1,M5,by omega,by go_num,s2d hm1,HV5,HR5,HRN2⟩
                 case measure => simp [intOf];omega
                ·have i1 : ((q2 : Int) < (q1 : Int) + 1) := by omega
                 have i2 : max (q2 : Int) ((q1 : Int) + 1) = (q1 : Int) + 1 := by omega
                 have hput2 := hput
                 rw [show max q2 (q1 + 1) = q1 + 1 by omega] at hput2
                 rw [show ((q1 + 1 : Nat) : Int) = (q1 : Int) + 1 by omega] at hput2
                 clear hn hput hle
                 go_wp2_with (go_at_call 67;refine (KH.out).mono ?_;rintro e w3 ⟨rfl,rfl⟩)
                 go_roundw
                 case rel => exact ⟨j + 1,m1 + 1,M5,by omega,by go_num,s2d hm1,HV5,HR5,HRN2⟩
                 case measure => simp [intOf];omega
              ·have HRN2 := ζ (show Rnd p L M0 M (pairsTo p (k + 1)) from by
                rw [HPT.out]
                have := HRN.out
                rwa [List.take_of_length_le (by omega)] at this)
               clear HRN
               go_wp2
               go_roundw
               case rel => exact ⟨k + 1,m1,M,by omega,by go_num,s2a hm1 hj hbl,HV,HRN2⟩
               case measure => simp [intOf];omega
            ·have HU2 := ζ (show (∀ s,M s ≤ L s) ∧ unset p L M ≤ p.length - (g + 1) from
              ⟨HRN.out.le,by have := HRN.out.finish HL.out (fun r hr x hx => pairsTo_all (by omega) hr hx) HU.out.2;omega⟩)
             clear HRN HU
             have hm2 : m0 ≤ (g + 1) * 16777216 := s2c hm0 hk hmany
             go_wp2
             go_roundw
             case rel => exact ⟨g + 1,m0,M,by omega,by go_num,hm2,HV,HU2⟩
             case measure => simp [intOf];omega
          ·have hML : M0 = L := unset_none HL.out HU.out.1 (by have := HU.out.2;omega)
           rw [hML] at HV
           have HE := ζ (show StrataIs p (p.map fun r => (L r.head.name : Int)) (0,0) from .inr ⟨HZ.out,.inl ⟨L,HL.out,rfl,rfl⟩⟩)
           have hwb := HV.out.big
           have hLg := HV.out.gt
           clear hML HU hm0
           go_wp2
           generalize HRB : wr.heap.size = RB at *
           have HO0 : Hid (Owned 1 RInt RB 3 (fun _ => False) wr (.slice none 0 0) ((p.take 0).map fun r => (L r.head.name : Int))) := ζ (by simpa using Owned.nil)
           have HRS := ζ (Nat.le_of_eq HRB.symm)
           clear HRB
           go_loopw [204,31] (fun i v wr => ∃ k : Nat,k ≤ p.length ∧ i = .int .i64 k ∧ Hid (LvW p w wr C LR n ha hc R0 O0 LV m0 L) ∧ Hid (Owned 1 RInt RB 3 (fun _ => False) wr v ((p.take k).map fun r => (L r.head.name : Int))) ∧ Hid (RB ≤ wr.heap.size)) (fun i _ _ => p.length - (intOf i).toNat)
           case atStart => exact ⟨0,Nat.zero_le _,rfl,HV,HO0,HRS⟩
           case round =>
            clear HO0 HV HRS
            obtain ⟨k,hk,rfl,HV,HO,HRS⟩ := hrel
            by_cases hlt : k < p.length
            ·obtain ⟨x,hx⟩ : ∃ x,p[k]? = some x := ⟨_,ζe hlt⟩
             obtain ⟨b1,o1,tv,bv,rfl,-,hb1,d0,d1,d2,d3,htv,hbv⟩ := RdRules.at (H.out.up HV.out.s.below) hx
             have hnx := (N3.out x (ζm hx)).h
             obtain ⟨ta,tc,rfl,-,-,-⟩ := id htv.form
             obtain ⟨ba,bc,rfl,-,-,-⟩ := id hbv.form
             have HT2 := ζ (show (p.take (k + 1)).map (fun r => (L r.head.name : Int)) = (p.take k).map (fun r => (L r.head.name : Int)) ++ [(L x.head.name : Int)] by rw [List.take_add_one,hx];simp)
             have hll : ((p.take k).map (fun r => (L r.head.name : Int))).length = k := by simp;omega
             generalize (p.take k).map (fun r => (L r.head.name : Int)) = ns at *
             have HV1 := ζ (HV.out.alloc (.cells #[.bool x.head.neg,.string x.head.name,.slice ta x.head.terms.length tc,.slice ba x.body.length bc] 81))
             have HO1 := ζ (HO.out.alloc RInt.steady (.cells #[.bool x.head.neg,.string x.head.name,.slice ta x.head.terms.length tc,.slice ba x.body.length bc] 81))
             have hget := HV1.out.lev.get (s := x.head.name) (by unfold maxLen;omega)
             generalize hmn : L x.head.name = m at *
             clear htv hbv hx
             have HMN := ζ hmn
             clear hmn
             have hrs := HRS.out
             go_wp2_with (at_builtin;refine wpList_append_one (B := RB) (e := 3) (S := fun _ => False) (by rfl) _ _ 47 (by rfl) RInt.steady rowInts _ ns (by rfl) (HO1.out.alloc RInt.steady _) (wr.heap.size + 1) 1 #[.int .i64 (m : Int)] 3 (0,0) (m : Int) (by rfl) (heap_new_at (by simp)) rfl (by simp [Value.oneCell']) rfl (by omega) (by simp;omega) ?_;intro v2 w2 hown2 hg2 hat2;have HO2 := ζ (show Owned 1 RInt RB 3 (fun _ => False) w2 v2 ((p.take (k + 1)).map fun r => (L r.head.name : Int)) by rw [HT2.out];exact hown2);have HV2 := ζ ((HV1.out.alloc _).grow hg2 (fun q hq => by have := (HO1.out.row_lt hq).1;omega));have HRS2 := ζ (show RB ≤ w2.heap.size by have := hg2.size;simp at this;omega);clear hown2 hg2 hat2)
             go_wp2
             go_roundw
             case rel => exact ⟨k + 1,by omega,by go_num,HV2,HO2,HRS2⟩
             case measure => simp [intOf];omega
            ·have htk : p.take k = p := List.take_of_length_le (by omega)
             rw [htk] at HO
             clear htk
             have c0 := HV.out.s.out.cell 0;have c1 := HV.out.s.out.cell 1;have f0 := HV.out.s.out.frozen 0;have f1 := HV.out.s.out.frozen 1
             simp only [ζc] at c0 c1
             have hlt2 := HV.out.s.lt
             have hlt3 := HV.out.s.ltL
             obtain ⟨va,vc,hv,-,-,-⟩ := id (HO.out.read RInt.steady).form
             subst hv
             have HOB := ζ (show (Value.slice va (p.map fun r => (L r.head.name : Int)).length vc).ownBlock ≠ some w.heap.size from fun h => by have := (HO.out.row_lt h).1;omega)
             go_wp2
             refine bodyPost_ret (v := .tuple #[.slice va (p.map fun r => (L r.head.name : Int)).length vc,.agg #[.int .i64 0,.int .i64 0]]) (by simp [results,Tryz.results45,go_sem,c0,c1]) rfl (strata_ret ?_ ?_ HE.out)
             ·exact ((HV.out.s.below).setCell (ζn _) _).setCell (ζn _) _
             ·exact (((HO.out.setCell RInt.steady (by simp) HOB.out _).setCell RInt.steady (by simp) HOB.out _).read RInt.steady).more RInt.steady (fun b hb _ => hb.elim (fun h => h.elim) (fun h => by show w.heap.size ≤ b;omega))
end Go.Proofs.YtdngkcieckejoaaGreat
