/-
  THE WALK OF check.Strata.
-/
import Derived.Test.YtdngkcieckejoaaGreatPk3
import Derived.Test.YtdngkcieckejoaaGreatPk10
namespace Go.Proofs.YtdngkcieckejoaaGreat
open Go.RowKit Go.Maps
theorem rowInts : RowT Tryz.prog 47 3 1 := RowT.mk' (b := 8) (z := .int .i64 0) Tryz.underlying47 (by kernel_rfl) (by omega) rfl (by omega)
def MapL (w : World) (b n : Nat) (M : Str → Nat) : Prop := ∃ f,MapI w b n f ∧ ∀ s,(f s).getD 0 = (M s : Int)
theorem MapL.get {w : World} {b n : Nat} {M : Str → Nat} (h : MapL w b n M) {s : Str} (hs : s.size ≤ maxLen) : (Instr.lookup 55 (.map (some b)) (.string s) false).run Tryz.prog w = .ok (.int .i64 (M s)) w := by
 obtain ⟨f,h1,h2⟩ := h
 rw [← h2 s]
 exact h1.get hs
theorem MapL.put {w : World} {b n : Nat} {M : Str → Nat} (h : MapL w b n M) (hn : n < maxLen) {s : Str} (hs : s.size ≤ maxLen) {x : Nat} (hx : x < 1099511627776) :
 ∃ w',(Instr.mapUpdate 55 (.map (some b)) (.string s) (.int .i64 x)).run Tryz.prog w = .ok () w' ∧ MapL w' b (n + 1) (fun t => if t = s then x else M t) ∧ w.grownBy w' (some b) := by
 obtain ⟨f,h1,h2⟩ := h
 obtain ⟨w',h3,h4,h5⟩ := h1.put hn hs (x := (x : Int)) (WalkArith.wf_i64 (by omega))
 refine ⟨w',h3,⟨_,h4,fun t => ?_⟩,h5⟩
 by_cases e : t = s
 ·simp [e]
 ·simp [e,h2 t]
structure StW (w wr : World) (LB n : Nat) (M : Str → Nat) (ks : List Str) : Prop where
 below : Below w.heap.size w wr
 out : Blk wr w.heap.size 49 #[.int .i64 0,.int .i64 0]
 lev : MapL wr LB n M
 had : MapB wr (LB + 1) ks
 lt : w.heap.size < LB
section
variable {w wr w' : World} {LB n : Nat} {M : Str → Nat} {ks : List Str}
theorem StW.alloc (h : StW w wr LB n M ks) (o : Obj) : StW w (wr.alloc o) LB n M ks :=
 ⟨h.below.alloc h.below.size o,h.out.alloc o,let ⟨f,h1,h2⟩ := h.lev;⟨f,h1.alloc o,h2⟩,h.had.alloc o,h.lt⟩
theorem StW.wider {m : Nat} (h : StW w wr LB n M ks) (hm : n ≤ m) : StW w wr LB m M ks := ⟨h.below,h.out,let ⟨f,h1,h2⟩ := h.lev;⟨f,h1.wider hm,h2⟩,h.had,h.lt⟩
theorem StW.size (h : StW w wr LB n M ks) : LB + 1 < wr.heap.size := h.had.lt
theorem StW.grow (h : StW w wr LB n M ks) {row : Option Nat} (hg : wr.grownBy w' row) (hr : ∀ q,row = some q → LB + 1 < q) : StW w w' LB n M ks :=
 ⟨h.below.grown hg h.below.size (fun q hq => by have := hr q hq;have := h.lt;omega),h.out.grown hg (fun e => by have := hr _ e.symm;have := h.lt;omega),let ⟨f,h1,h2⟩ := h.lev;⟨f,h1.kept hg (fun e => by have := hr _ e.symm;omega),h2⟩,h.had.kept hg (fun e => by have := hr _ e.symm;omega),h.lt⟩
theorem StW.putL (h : StW w wr LB n M ks) (hn : n < maxLen) {s : Str} (hs : s.size ≤ maxLen) {x : Nat} (hx : x < 1099511627776) :
 ∃ w',(Instr.mapUpdate 55 (.map (some LB)) (.string s) (.int .i64 x)).run Tryz.prog wr = .ok () w' ∧ StW w w' LB (n + 1) (fun t => if t = s then x else M t) ks ∧ wr.grownBy w' (some LB) := by
 obtain ⟨w',h1,h2,h3⟩ := h.lev.put hn hs hx
 exact ⟨w',h1,⟨h.below.grown h3 h.below.size (fun q hq => by cases hq;have := h.lt;omega),h.out.grown h3 (fun e => by have := h.lt;simp at e;omega),h2,h.had.kept h3 (by simp),h.lt⟩,h3⟩
theorem StW.putB (h : StW w wr LB n M ks) (hn : ks.length < maxLen) {s : Str} (hs : s.size ≤ maxLen) :
 ∃ w',(Instr.mapUpdate 92 (.map (some (LB + 1))) (.string s) (.bool true)).run Tryz.prog wr = .ok () w' ∧ StW w w' LB n M (ks ++ [s]) ∧ wr.grownBy w' (some (LB + 1)) := by
 obtain ⟨w',h1,h2,h3⟩ := h.had.put hn hs
 exact ⟨w',h1,⟨h.below.grown h3 h.below.size (fun q hq => by cases hq;have := h.lt;omega),h.out.grown h3 (fun e => by have := h.lt;simp at e;omega),let ⟨f,h4,h5⟩ := h.lev;⟨f,h4.kept h3 (by simp),h5⟩,h2,h.lt⟩,h3⟩
end
def StrataPost (p : List PRule) (w : World) (e : Ending) (w' : World) : Prop :=
 Below w.heap.size w w' ∧ ∃ v l q,e = .returned (.tuple #[v,.agg #[.int .i64 q.1,.int .i64 q.2]]) ∧ RdInts (New w) w' v l ∧ StrataIs p l q
theorem strata_ret {p : List PRule} {w w' : World} {v : Value} {l : List Int} {a b : Int} (hb : Below w.heap.size w w') (hv : RdInts (New w) w' v l) (hs : StrataIs p l (a,b)) : StrataPost p w (.returned (.tuple #[v,.agg #[.int .i64 a,.int .i64 b]])) w' :=
 ⟨hb,v,l,(a,b),rfl,hv,hs⟩
set_option maxRecDepth 100000 in
set_option maxHeartbeats 0 in
theorem strataCalls {S : Nat → Prop} (p : List PRule) (v : Value) (w : World) (h : RdRules S w v p) (n1 : p.length ≤ 1048576) (n2 : ∀ r ∈ p,RuleSmall r) (n3 : ∀ r ∈ p,NameSmall r) :
 Calls Tryz.prog 15 #[v] w (StrataPost p w) := by
 obtain ⟨a,c,rfl,-,-,-⟩ := id h.form
 have H := ζ h
 have N2 := ζ n2
 have N3 := ζ n3
 clear h n2 n3
 have KW := ζ (wrongCalls p (.slice a p.length c) (w.alloc (.cells #[.int .i64 0,.int .i64 0] 49)) (H.out.agree RRule.steady ((Agree.refl _ _).alloc _)) n1 N2.out N3.out)
 have HB0 := ζ ((ζb w.heap.size w).alloc (ζn _) (.cells #[.int .i64 0,.int .i64 0] 49))
 have HF0 := ζ (Blk.new w 49 #[.int .i64 0,.int .i64 0])
 by_cases hz : (wrongP p).1 = 0
 rotate_left
 ·have HE := ζ (show StrataIs p [] (wrongP p) from .inl ⟨hz,rfl,rfl⟩)
  have hne : ((wrongP p).1 != 0) = true := by simpa using hz
  clear hz
  generalize wrongP p = q at *
  obtain ⟨q1,q2⟩ := q
  go_enter Tryz.func15,Tryz.ntmps15
  go_wp2_with (go_at_call 34;refine (KW.out).mono ?_;rintro e w1 ⟨rfl,hf1⟩;have HB1 := ζ (HB0.out.trans (hf1.mono (by simp)));have HF1 := ζ (HF0.out.below hf1 HF0.out.lt);clear hf1)
  have HF2 := ζ (HF1.out.alloc (.cells #[.int .i64 q1,.int .i64 q2] 49))
  have HB2 := ζ (HB1.out.alloc HB1.out.size (.cells #[.int .i64 q1,.int .i64 q2] 49))
  have HN2 := ζ (Blk.new w1 49 #[.int .i64 q1,.int .i64 q2])
  generalize w1.alloc (.cells #[.int .i64 q1,.int .i64 q2] 49) = w2 at *
  have k0 := HN2.out.cell 0;have k1 := HN2.out.cell 1
  have c0 := HF2.out.cell 0;have c1 := HF2.out.cell 1;have f0 := HF2.out.frozen 0;have f1 := HF2.out.frozen 1
  simp only [ζc] at c0 c1 k0 k1
  go_region_law (fail)
  all_goals
   go_wp2
   refine bodyPost_ret (v := .tuple #[.slice none 0 0,.agg #[.int .i64 q1,.int .i64 q2]]) (by simp [results,Tryz.results15,go_sem,c0,c1]) rfl (strata_ret ?_ ?_ HE.out)
   ·exact ((HB2.out.drew).setCell (ζn _) _).setCell (ζn _) _
   ·exact RdSlice.nothing (Nat.zero_le _) (fun _ => rfl)
 have hmany : p.length ≤ 16 := by
  apply Classical.byContradiction
  intro hm
  unfold wrongP at hz
  rw [if_pos (by omega)] at hz
  exact absurd hz (by decide)
 have HZ := ζ hz
 rw [hz] at KW
 generalize (wrongP p).2 = q2 at KW
 clear hz
 have hmm := @run_makeMap Tryz.prog
 go_enter Tryz.func15,Tryz.ntmps15
 go_wp2_with (go_at_call 34;refine (KW.out).mono ?_;rintro e w1 ⟨rfl,hf1⟩;have HB1 := ζ (HB0.out.trans (hf1.mono (by simp)));have HF1 := ζ (HF0.out.below hf1 HF0.out.lt);clear hf1)
 have HW := ζ (show StW w (((w1.alloc (.cells #[.int .i64 0,.int .i64 q2] 49)).alloc (.map #[] 0)).alloc (.map #[] 0)) (w1.heap.size + 1) 0 (fun _ => 0) (headsOf (p.take 0)) from by
  have h1 := HF1.out.lt
  have hs1 : (w1.alloc (.cells #[.int .i64 0,.int .i64 q2] 49)).heap.size = w1.heap.size + 1 := by simp
  refine ⟨((HB1.out.alloc HB1.out.size _).alloc (by simp;have := HB1.out.size;omega) _).alloc (by simp;have := HB1.out.size;omega) _,((HF1.out.alloc _).alloc _).alloc _,⟨fun _ => none,MapI.alloc ?_ _,fun _ => rfl⟩,?_,by omega⟩
  ·have := MapI.made (w1.alloc (.cells #[.int .i64 0,.int .i64 q2] 49))
   rwa [hs1] at this
  ·have := MapB.made ((w1.alloc (.cells #[.int .i64 0,.int .i64 q2] 49)).alloc (.map #[] 0))
   have hs2 : ((w1.alloc (.cells #[.int .i64 0,.int .i64 q2] 49)).alloc (.map #[] 0)).heap.size = w1.heap.size + 1 + 1 := by simp
   rwa [hs2] at this)
 clear HF1 HB1 HF0 HB0 KW
 have e2 : w1.heap.size + 2 = w1.heap.size + 1 + 1 := rfl
 try rw [e2]
 generalize ((w1.alloc (.cells #[.int .i64 0,.int .i64 q2] 49)).alloc (.map #[] 0)).alloc (.map #[] 0) = w2 at *
 generalize w1.heap.size + 1 = LB at *
 go_loopw [28] (fun i wr => ∃ k : Nat,k ≤ p.length ∧ i = .int .i64 k ∧ Hid (StW w wr LB 0 (fun _ => 0) (headsOf (p.take k)))) (fun i _ => p.length - (intOf i).toNat)
 case atStart => exact ⟨0,Nat.zero_le _,rfl,HW⟩
 case round =>
  clear HW
  obtain ⟨k,hk,rfl,HW⟩ := hrel
  by_cases hlt : k < p.length
  ·obtain ⟨x,hx⟩ : ∃ x,p[k]? = some x := ⟨_,ζe hlt⟩
   obtain ⟨b1,o1,tv,bv,rfl,-,hb1,d0,d1,d2,d3,htv,hbv⟩ := RdRules.at (H.out.up HW.out.below) hx
   have hnx := (N3.out x (ζm hx)).h
   obtain ⟨w3,hput,hw3,-⟩ := (HW.out.alloc (.cells #[.bool x.head.neg,.string x.head.name,tv,bv] 81)).putB (by simp [headsOf];unfold maxLen;omega) (s := x.head.name) (by unfold maxLen;omega)
   have HW3 := ζ (show StW w w3 LB 0 (fun _ => 0) (headsOf (p.take (k + 1))) by
    have e : headsOf (p.take (k + 1)) = headsOf (p.take k) ++ [x.head.name] := by rw [List.take_add_one,hx];simp [headsOf]
    rw [e];exact hw3)
   clear hw3 hx
   obtain ⟨ta,tc,rfl,-,-,-⟩ := id htv.form
   obtain ⟨ba,bc,rfl,-,-,-⟩ := id hbv.form
   clear htv hbv
   go_wp2
   go_roundw
   case rel => exact ⟨k + 1,by omega,by go_num,HW3⟩
   case measure => simp [intOf];omega
  ·have HW0 := ζ (show StW w wr LB 0 (fun _ => 0) (headsOf p) by have := HW.out;rwa [List.take_of_length_le (by omega)] at this)
   clear HW
   have hD := Dh_le p
   have hDD : Dh p * Dh p ≤ 16 * 16 := Nat.mul_le_mul (by omega) (by omega)
   go_wp2
   have htz : tot p (fun _ => 0) = 0 := Nat.le_zero.1 (Nat.le_trans (sum_le _ _ 0 fun _ => ζn _) (by simp))
   go_loopg [9,2] (2 * (Dh p * Dh p) + 2) (fun gk b v2 wr => ∃ (nb : Bool) (M : Str → Nat),b = .bool nb ∧ v2 = .slice none 0 0 ∧ gk + 2 * tot p M = 2 * (Dh p * Dh p) + 1 + nb.toNat ∧ Hid (StW w wr LB (tot p M) M (headsOf p)) ∧ Hid (Sub p M) ∧ Hid (nb = false → Least p M))
   case atStart => exact ⟨true,fun _ => 0,rfl,rfl,by rw [htz];rfl,by rw [htz];exact HW0,ζ (Sub.zero p),ζ (fun h => by cases h)⟩
   case round =>
    clear HW0 htz
    obtain ⟨nb,M,rfl,rfl,hgk,HW,HU,HL⟩ := hrel
    cases nb
    ·have HE := ζ (show StrataIs p (p.map fun r => (M r.head.name : Int)) (0,0) from .inr ⟨HZ.out,.inl ⟨M,HL.out rfl,rfl,rfl⟩⟩)
     obtain ⟨tn,HT⟩ : ∃ tn,Hid (tn = tot p M) := ⟨_,ζ rfl⟩
     rw [← HT.out] at HW
     have hmr := HW.out.size
     clear hgk HL HU
     go_wp2
     generalize HRB : wr.heap.size = RB at *
     have HO0 : Hid (Owned 1 RInt RB 3 (fun _ => False) wr (.slice none 0 0) ((p.take 0).map fun r => (M r.head.name : Int))) := ζ (by simpa using Owned.nil)
     have HRS := ζ (Nat.le_of_eq HRB.symm)
     clear HRB
     go_loopw [86,15] (fun i v wr => ∃ k : Nat,k ≤ p.length ∧ i = .int .i64 k ∧ Hid (StW w wr LB tn M (headsOf p)) ∧ Hid (Owned 1 RInt RB 3 (fun _ => False) wr v ((p.take k).map fun r => (M r.head.name : Int))) ∧ Hid (RB ≤ wr.heap.size)) (fun i _ _ => p.length - (intOf i).toNat)
     case atStart => exact ⟨0,Nat.zero_le _,rfl,HW,HO0,HRS⟩
     case round =>
      clear HO0 HW HRS
      obtain ⟨k,hk,rfl,HW,HO,HRS⟩ := hrel
      by_cases hlt : k < p.length
      ·obtain ⟨x,hx⟩ : ∃ x,p[k]? = some x := ⟨_,ζe hlt⟩
       obtain ⟨b1,o1,tv,bv,rfl,-,hb1,d0,d1,d2,d3,htv,hbv⟩ := RdRules.at (H.out.up HW.out.below) hx
       have hnx := (N3.out x (ζm hx)).h
       obtain ⟨ta,tc,rfl,-,-,-⟩ := id htv.form
       obtain ⟨ba,bc,rfl,-,-,-⟩ := id hbv.form
       have HT2 := ζ (show (p.take (k + 1)).map (fun r => (M r.head.name : Int)) = (p.take k).map (fun r => (M r.head.name : Int)) ++ [(M x.head.name : Int)] by rw [List.take_add_one,hx];simp)
       have hll : ((p.take k).map (fun r => (M r.head.name : Int))).length = k := by simp;omega
       generalize (p.take k).map (fun r => (M r.head.name : Int)) = ns at *
       have HW1 := ζ (HW.out.alloc (.cells #[.bool x.head.neg,.string x.head.name,.slice ta x.head.terms.length tc,.slice ba x.body.length bc] 81))
       have HO1 := ζ (HO.out.alloc RInt.steady (.cells #[.bool x.head.neg,.string x.head.name,.slice ta x.head.terms.length tc,.slice ba x.body.length bc] 81))
       have hget := HW1.out.lev.get (s := x.head.name) (by unfold maxLen;omega)
       generalize hmn : M x.head.name = m at *
       clear htv hbv hx
       have HMN := ζ hmn
       clear hmn
       have hrs := HRS.out
       go_wp2_with (at_builtin;refine wpList_append_one (B := RB) (e := 3) (S := fun _ => False) (by rfl) _ _ 47 (by rfl) RInt.steady rowInts _ ns (by rfl) (HO1.out.alloc RInt.steady _) (wr.heap.size + 1) 1 #[.int .i64 (m : Int)] 3 (0,0) (m : Int) (by rfl) (heap_new_at (by simp)) rfl (by simp [Value.oneCell']) rfl (by omega) (by simp;omega) ?_;intro v2 w2 hown2 hg2 hat2;have HO2 := ζ (show Owned 1 RInt RB 3 (fun _ => False) w2 v2 ((p.take (k + 1)).map fun r => (M r.head.name : Int)) by rw [HT2.out];exact hown2);have HW2 := ζ ((HW1.out.alloc _).grow hg2 (fun q hq => by have := (HO1.out.row_lt hq).1;omega));have HRS2 := ζ (show RB ≤ w2.heap.size by have := hg2.size;simp at this;omega);clear hown2 hg2 hat2)
       go_wp2
       go_roundw
       case rel => exact ⟨k + 1,by omega,by go_num,HW2,HO2,HRS2⟩
       case measure => simp [intOf];omega
      ·have htk : p.take k = p := List.take_of_length_le (by omega)
       rw [htk] at HO
       clear htk
       have c0 := HW.out.out.cell 0;have c1 := HW.out.out.cell 1;have f0 := HW.out.out.frozen 0;have f1 := HW.out.out.frozen 1
       simp only [ζc] at c0 c1
       have hlt2 := HW.out.lt
       obtain ⟨va,vc,hv,-,-,-⟩ := id (HO.out.read RInt.steady).form
       subst hv
       have HOB := ζ (show (Value.slice va (p.map fun r => (M r.head.name : Int)).length vc).ownBlock ≠ some w.heap.size from fun h => by have := (HO.out.row_lt h).1;omega)
       go_wp2
       refine bodyPost_ret (v := .tuple #[.slice va (p.map fun r => (M r.head.name : Int)).length vc,.agg #[.int .i64 0,.int .i64 0]]) (by simp [results,Tryz.results15,go_sem,c0,c1]) rfl (strata_ret ?_ ?_ HE.out)
       ·exact ((HW.out.below).setCell (ζn _) _).setCell (ζn _) _
       ·exact (((HO.out.setCell RInt.steady (by simp) HOB.out _).setCell RInt.steady (by simp) HOB.out _).read RInt.steady).more RInt.steady (fun b hb _ => hb.elim (fun h => h.elim) (fun h => by show w.heap.size ≤ b;omega))
    ·go_wp2
     go_loopw [40,9,2] (fun i b v2 wr => ∃ (k : Nat) (nb : Bool) (M1 : Str → Nat),k ≤ p.length ∧ i = .int .i64 k ∧ b = .bool nb ∧ v2 = .slice none 0 0 ∧ tot p M + nb.toNat ≤ tot p M1 ∧ Hid (StW w wr LB (tot p M1) M1 (headsOf p)) ∧ Hid (Sub p M1) ∧ Hid (nb = false → ∀ r ∈ p.take k,∀ a ∈ r.body,M1 a.name + dl p a ≤ M1 r.head.name)) (fun i _ _ _ => p.length - (intOf i).toNat)
     case atStart => exact ⟨0,false,M,Nat.zero_le _,rfl,rfl,rfl,ζn _,HW,HU,ζ (by simp)⟩
     case round =>
      clear HW HU HL
      obtain ⟨k,nb,M1,hk,rfl,rfl,rfl,htot,HW,HU,HL⟩ := hrel
      by_cases hlt : k < p.length
      ·obtain ⟨x,hx⟩ : ∃ x,p[k]? = some x := ⟨_,ζe hlt⟩
       have hmem := ζm hx
       obtain ⟨b1,o1,tv,bv,rfl,-,hb1,d0,d1,d2,d3,htv,hbv⟩ := RdRules.at H.out hx
       obtain ⟨ta,tc,rfl,-,-,-⟩ := id htv.form
       obtain ⟨ba,bc,rfl,-,-,-⟩ := id hbv.form
       have HRA := ζ (show RuleAt S w b1 (o1 + k * 4) x (.slice ta x.head.terms.length tc) (.slice ba x.body.length bc) from ⟨hb1,d0,d1,d2,d3,htv,hbv⟩)
       have HS := ζ (N2.out x hmem)
       have HN := ζ (N3.out x hmem)
       have HX := ζ hx
       have HME := ζ hmem
       clear d0 d1 d2 d3
       obtain ⟨-,d0,d1,d2,d3,-,-⟩ := HRA.out.up HW.out.below
       have HR0 := ζ (Blk.new wr 81 #[.bool x.head.neg,.string x.head.name,.slice ta x.head.terms.length tc,.slice ba x.body.length bc])
       have HW1 := ζ (HW.out.alloc (.cells #[.bool x.head.neg,.string x.head.name,.slice ta x.head.terms.length tc,.slice ba x.body.length bc] 81))
       have hrb := HW.out.size
       have hbody := HS.out.b0
       clear hx hmem htv hbv
       go_wp2
       generalize HRB : wr.heap.size = rb at *
       clear HRB HW d0 d1 d2 d3
       go_loopw [47,9,2] (fun i b v2 wr => ∃ (j : Nat) (nb : Bool) (M2 : Str → Nat),j ≤ x.body.length ∧ i = .int .i64 j ∧ b = .bool nb ∧ v2 = .slice none 0 0 ∧ tot p M + nb.toNat ≤ tot p M2 ∧ Hid (StW w wr LB (tot p M2) M2 (headsOf p)) ∧ Hid (Blk wr rb 81 #[.bool x.head.neg,.string x.head.name,.slice ta x.head.terms.length tc,.slice ba x.body.length bc]) ∧ Hid (Sub p M2) ∧ Hid (nb = false → (∀ r ∈ p.take k,∀ a ∈ r.body,M2 a.name + dl p a ≤ M2 r.head.name) ∧ ∀ a ∈ x.body.take j,M2 a.name + dl p a ≤ M2 x.head.name)) (fun i _ _ _ => x.body.length - (intOf i).toNat)
       case atStart => exact ⟨0,nb,M1,Nat.zero_le _,rfl,rfl,rfl,htot,HW1,HR0,HU,ζ (fun h => ⟨HL.out h,by simp⟩)⟩
       case round =>
        clear HW1 HR0 HU HL htot
        obtain ⟨j,nb,M2,hj,rfl,rfl,rfl,htot,HW,HR,HU,HL⟩ := hrel
        by_cases hlj : j < x.body.length
        ·obtain ⟨y,hy⟩ : ∃ y,x.body[j]? = some y := ⟨_,ζe hlj⟩
         have hymem := ζm hy
         obtain ⟨b4,o4,yv,rfl,-,hb4,e0,e1,e2,hyv⟩ := RdAtoms.at ((HRA.out.up HW.out.below).b) hy
         obtain ⟨ya,yc,rfl,-,-,-⟩ := id hyv.form
         have hns := HN.out.h
         have hys := HN.out.b y hymem
         have HW2 := ζ (HW.out.alloc (.cells #[.bool y.neg,.string y.name,.slice ya y.terms.length yc] 78))
         have HR2 := ζ (HR.out.alloc (.cells #[.bool y.neg,.string y.name,.slice ya y.terms.length yc] 78))
         have hg1 := HW2.out.lev.get (s := y.name) (by unfold maxLen;omega)
         have hg2 := HW2.out.lev.get (s := x.head.name) (by unfold maxLen;omega)
         have hg3 := HW2.out.had.get (s := y.name) (by unfold maxLen;omega)
         have hg4 := HW2.out.had.len 3
         have rc := HR2.out.cell 1
         have c0 := HW2.out.out.cell 0;have c1 := HW2.out.out.cell 1;have f0 := HW2.out.out.frozen 0;have f1 := HW2.out.out.frozen 1
         simp only [ζc] at c0 c1 rc
         have HTK := ζ (show x.body.take (j + 1) = x.body.take j ++ [y] by rw [List.take_add_one,hy];rfl)
         have HY := ζ hymem
         obtain ⟨d,hdd,hcase⟩ : ∃ d,dl p y = d ∧ ((y.neg = false ∧ d = 0) ∨ (y.neg = true ∧ memS y.name (headsOf p) = false ∧ d = 0) ∨ (y.neg = true ∧ memS y.name (headsOf p) = true ∧ d = 1)) := by
          refine ⟨_,rfl,?_⟩
          unfold dl
          cases hn : y.neg
          ·exact .inl ⟨rfl,by simp⟩
          ·cases hm : memS y.name (headsOf p)
           ·exact .inr (.inl ⟨rfl,rfl,if_neg (fun h => by have := (memS_iff _ _).2 h.2;rw [hm] at this;cases this)⟩)
           ·exact .inr (.inr ⟨rfl,rfl,if_pos ⟨rfl,(memS_iff _ _).1 hm⟩⟩)
         have hu0 := HU.out.lt y.name
         have hDl : Dh p ≤ 16 := by omega
         by_cases hle : M2 y.name + d ≤ M2 x.head.name
         ·have HL2 := ζ (show nb = false → (∀ r ∈ p.take k,∀ a ∈ r.body,M2 a.name + dl p a ≤ M2 r.head.name) ∧ ∀ a ∈ x.body.take (j + 1),M2 a.name + dl p a ≤ M2 x.head.name from fun h => ⟨(HL.out h).1,fun a ha => by
           rw [HTK.out] at ha
           rcases List.mem_append.1 ha with ha | ha
           ·exact (HL.out h).2 a ha
           ·obtain rfl := List.mem_singleton.1 ha
            rw [hdd];exact hle⟩)
          clear hy hymem hyv hdd HL HW HR
          generalize M2 y.name = m1 at hg1 hle hu0
          generalize M2 x.head.name = m2 at hg2 hle
          generalize memS y.name (headsOf p) = mb at hg3 hcase
          have hw1 : IntKind.i64.wrap ((m1 : Int) + 1) = (m1 : Int) + 1 := by rw [IntKind.wrap_i64];omega
          rcases hcase with ⟨hn,rfl⟩ | ⟨hn,rfl,rfl⟩ | ⟨hn,rfl,rfl⟩
          all_goals
           have i1 : (m1 : Int) ≤ (m2 : Int) := by omega
           try have i2 : (m1 : Int) + 1 ≤ (m2 : Int) := by omega
           rw [hn] at e0 HW2 HR2 hg1 hg2 hg3 hg4 rc c0 c1 f0 f1
           clear hn hle
           go_wp2
           go_roundw
           case rel => exact ⟨j + 1,nb,M2,by omega,by go_num,rfl,rfl,htot,HW2,HR2,HU,HL2⟩
           case measure => simp [intOf];omega
         ·by_cases hlt2 : M2 y.name + d < Dh p
          ·obtain ⟨HU2',htot2⟩ := HU.out.step HME.out hymem (by rw [hdd];exact hlt2) (by rw [hdd];exact hle)
           have HU2 := ζ HU2'
           obtain ⟨w5,hput,hw5,hgr5⟩ := HW2.out.putL (s := x.head.name) (x := M2 y.name + d) (by have := HU.out.tot_le;unfold maxLen;omega) (by unfold maxLen;omega) (by omega)
           have HW5 := ζ (show StW w w5 LB (tot p (raise p M2 x y)) (raise p M2 x y) (headsOf p) from by
            have := hw5.wider htot2
            have e : raise p M2 x y = fun t => if t = x.head.name then M2 y.name + d else M2 t := by unfold raise;rw [hdd]
            rw [e] at this ⊢;exact this)
           have HR5 := ζ (HR2.out.grown hgr5 (by simp;omega))
           have ht5 : tot p M + 1 ≤ tot p (raise p M2 x y) := by omega
           generalize raise p M2 x y = M5 at *
           clear hy hymem hyv hdd HL HW HR hw5 hgr5 HU2' HU
           generalize M2 y.name = m1 at *
           generalize M2 x.head.name = m2 at *
           generalize memS y.name (headsOf p) = mb at *
           have hw1 : IntKind.i64.wrap ((m1 : Int) + 1) = (m1 : Int) + 1 := by rw [IntKind.wrap_i64];omega
           rw [show (onceS (headsOf p)).length = Dh p from rfl] at hg4
           rcases hcase with ⟨hn,rfl⟩ | ⟨hn,rfl,rfl⟩ | ⟨hn,rfl,rfl⟩
           all_goals
            first
             | (have i1 : ¬ ((m1 : Int) + 1 ≤ (m2 : Int)) := by omega
                have i2 : ¬ ((Dh p : Int) ≤ (m1 : Int) + 1) := by omega
                have hput2 : (Instr.mapUpdate 55 (.map (some LB)) (.string x.head.name) (.int .i64 ((m1 : Int) + 1))).run Tryz.prog _ = .ok () w5 := hput)
             | (have i1 : ¬ ((m1 : Int) ≤ (m2 : Int)) := by omega
                have i2 : ¬ ((Dh p : Int) ≤ (m1 : Int)) := by omega
                have hput2 : (Instr.mapUpdate 55 (.map (some LB)) (.string x.head.name) (.int .i64 (m1 : Int))).run Tryz.prog _ = .ok () w5 := hput)
            rw [hn] at e0 HW2 HR2 hg1 hg2 hg3 hg4 rc c0 c1 f0 f1 hput2
            clear hn hle hlt2 hput
            go_wp2
            go_roundw
            case rel => exact ⟨j + 1,true,M5,by omega,by go_num,rfl,rfl,ht5,HW5,HR5,HU2,ζ (fun h => by cases h)⟩
            case measure => simp [intOf];omega
          ·have hD0 : 0 < Dh p := by
            have h1 : x.head.name ∈ onceS (headsOf p) := (mem_onceS _ _).2 (List.mem_map.2 ⟨x,HME.out,rfl⟩)
            exact List.length_pos_of_mem h1
           have HE := ζ (show StrataIs p [] (10,0) from .inr ⟨HZ.out,.inr ⟨HU.out.fail HME.out hymem (by rw [hdd];exact hlt2),rfl,rfl⟩⟩)
           clear hy hymem hyv hdd HL HW HR HU
           generalize M2 y.name = m1 at *
           generalize M2 x.head.name = m2 at *
           generalize memS y.name (headsOf p) = mb at *
           have hw1 : IntKind.i64.wrap ((m1 : Int) + 1) = (m1 : Int) + 1 := by rw [IntKind.wrap_i64];omega
           rw [show (onceS (headsOf p)).length = Dh p from rfl] at hg4
           rcases hcase with ⟨hn,rfl⟩ | ⟨hn,rfl,rfl⟩ | ⟨hn,rfl,rfl⟩
           ·exfalso;omega
           ·exfalso;omega
           ·have i1 : ¬ ((m1 : Int) + 1 ≤ (m2 : Int)) := by omega
            have i2 : ((Dh p : Int) ≤ (m1 : Int) + 1) := by omega
            rw [hn] at e0 HW2 HR2 hg1 hg2 hg3 hg4 rc c0 c1 f0 f1
            clear hn hle hlt2
            go_wp2
            refine bodyPost_ret (v := .tuple #[.slice none 0 0,.agg #[.int .i64 10,.int .i64 0]]) (by simp [results,Tryz.results15,go_sem,c0,c1]) rfl (strata_ret ?_ ?_ HE.out)
            ·exact ((HW2.out.below).setCell (ζn _) _).setCell (ζn _) _
            ·exact RdSlice.nothing (Nat.zero_le _) (fun _ => rfl)
        ·have HL2 := ζ (show nb = false → ∀ r ∈ p.take (k + 1),∀ a ∈ r.body,M2 a.name + dl p a ≤ M2 r.head.name from fun h r hr a ha => by
          rw [List.take_add_one,HX.out] at hr
          rcases List.mem_append.1 hr with hr | hr
          ·exact (HL.out h).1 r hr a ha
          ·obtain rfl := List.mem_singleton.1 (by simpa using hr)
           refine (HL.out h).2 a ?_
           rwa [List.take_of_length_le (by omega)])
         clear HL HR
         go_wp2
         go_roundw
         case rel => exact ⟨k + 1,nb,M2,by omega,by go_num,rfl,rfl,htot,HW,HU,HL2⟩
         case measure => simp [intOf];omega
      ·have HL2 := ζ (show nb = false → Least p M1 from fun h => HU.out.done (by have := HL.out h;rwa [List.take_of_length_le (by omega)] at this))
       have htle := HU.out.tot_le
       clear HL
       go_wp2
       go_roundg (2 * (Dh p * Dh p) + 1 + nb.toNat - 2 * tot p M1)
       case measure => cases nb <;> simp at htot ⊢ <;> simp at hgk <;> omega
       case rel => exact ⟨nb,M1,rfl,rfl,by omega,HW,HU,HL2⟩
end Go.Proofs.YtdngkcieckejoaaGreat
