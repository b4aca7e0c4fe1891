/-
  THE TEXTS NaiveW1, SynW4, AppendW, NaiveW2, one behind the other.
-/
import Derived.Test.YtdngkcieckejoaaGreatPk2
import Derived.Test.YtdngkcieckejoaaGreatPk4
import Derived.Test.YtdngkcieckejoaaGreatPk8
import Derived.Test.YtdngkcieckejoaaGreatPk9
import Derived.Test.YtdngkcieckejoaaGreatPk10
namespace Go.Proofs.YtdngkcieckejoaaGreat
section
open Go.RowKit
theorem foldl_max_bd (b : Int) : ∀ (l : List Int) (x : Int),0 ≤ x → x ≤ b → (∀ z ∈ l,0 ≤ z ∧ z ≤ b) → 0 ≤ l.foldl max x ∧ l.foldl max x ≤ b
 | [],x,h1,h2,_ => ⟨h1,h2⟩
 | z :: l,x,h1,h2,h => by
  rw [List.foldl_cons]
  have := h z (by simp)
  exact foldl_max_bd b l (max x z) (by omega) (by omega) fun y hy => h y (by simp [hy])
theorem foldl_take_snoc {l : List Int} {k : Nat} {z x : Int} (h : l[k]? = some z) : (l.take (k + 1)).foldl max x = max ((l.take k).foldl max x) z := by
 rw [List.take_add_one,h,List.foldl_append];rfl
set_option maxRecDepth 100000 in
set_option maxHeartbeats 0 in
theorem maxInts {S : Nat → Prop} (v : Value) (x : Int) (l : List Int) (w : World) (h : RdInts S w v (x :: l)) (n1 : (x :: l).length ≤ 1048576) :
 Calls Tryz.prog 41 #[v] w fun e w' => e = .returned (.int .i64 (l.foldl max x)) ∧ w' = w := by
 obtain ⟨a,c,rfl,-,-,-⟩ := id h.form
 have H := ζ h
 clear h
 simp only [List.length_cons] at n1
 have hlen : (x :: l).length = l.length + 1 := rfl
 obtain ⟨b0,o0,rfl,-,-,d0⟩ := RdInts.at H.out (i := 0) rfl
 rw [hlen] at H ⊢
 obtain ⟨n,hn⟩ : ∃ n,l.length + 1 = n := ⟨_,rfl⟩
 rw [hn]
 have i1 : ¬ ((n : Int) < 1) := by omega
 have i2 : (0 : Int) < (n : Int) := by omega
 have d0' : w.cell? ⟨b0,o0,none⟩ = some (.int .i64 x) := by simpa using d0
 go_enter Tryz.func41,Tryz.ntmps41
 go_wp2
 go_loop [4,3] (fun i m => ∃ k : Nat,k ≤ l.length ∧ i = .int .i64 ((k + 1 : Nat) : Int) ∧ m = .int .i64 ((l.take k).foldl max x)) (fun i _ => n - (intOf i).toNat)
 case atStart => exact ⟨0,Nat.zero_le _,rfl,rfl⟩
 case round =>
  obtain ⟨k,hk,rfl,rfl⟩ := hrel
  by_cases hlt : k < l.length
  ·obtain ⟨z,hz⟩ : ∃ z,l[k]? = some z := ⟨_,ζe hlt⟩
   obtain ⟨b1,o1,e1,-,-,d1⟩ := RdInts.at H.out (i := k + 1) (x := z) (by simpa using hz)
   injection e1 with e1
   injection e1 with e2 e3 _
   subst e2 e3
   have HZ := ζ (foldl_take_snoc (x := x) hz)
   have i3 : ((k + 1 : Nat) : Int) < (n : Int) := by omega
   have i4 : (0 : Int) ≤ ((k + 1 : Nat) : Int) := by omega
   clear hz
   generalize (l.take k).foldl max x = m at *
   go_wp2
   all_goals
    go_round
    case rel => exact ⟨k + 1,by omega,by go_num,by rw [HZ.out];try (first | rfl | (rw [Int.max_def];split <;> first | rfl | (exfalso;omega)))⟩
    case measure => simp [intOf];omega
  ·have i3 : ¬ (((k + 1 : Nat) : Int) < (n : Int)) := by omega
   have hk' : l.take k = l := List.take_of_length_le (by omega)
   rw [hk']
   go_wp2
   go_ret
   exact ⟨rfl,rfl⟩
set_option maxRecDepth 100000 in
theorem countCalls {S : Nat → Prop} (v : Value) (l : List Int) (w : World) (h : RdInts S w v l) (n1 : l.length ≤ 1048576) (n2 : ∀ z ∈ l,0 ≤ z ∧ z ≤ 1048576) :
 Calls Tryz.prog 19 #[v] w fun e w' => e = .returned (.int .i64 (countP l)) ∧ w' = w := by
 obtain ⟨a,c,rfl,-,-,-⟩ := id h.form
 cases l with
 | nil =>
  go_enter Tryz.func19,Tryz.ntmps19
  go_wp2
  go_ret
  exact ⟨rfl,rfl⟩
 | cons x l =>
  have K := ζ (maxInts _ x l w h n1)
  obtain ⟨g1,g2⟩ := foldl_max_bd 1048576 l x (n2 x (by simp)).1 (n2 x (by simp)).2 fun z hz => n2 z (by simp [hz])
  have HC := ζ (show countP (x :: l) = l.foldl max x + 1 from rfl)
  simp only [List.length_cons] at *
  obtain ⟨n,hn⟩ : ∃ n,l.length + 1 = n := ⟨_,rfl⟩
  rw [hn] at K ⊢
  have i1 : ¬ ((n : Int) = 0) := by omega
  generalize l.foldl max x = m at *
  clear h n2 hn
  go_enter Tryz.func19,Tryz.ntmps19
  go_wp2_with (go_at_call 41;refine (K.out).mono ?_;rintro e w1 ⟨rfl,rfl⟩)
  go_ret
  exact ⟨by rw [HC.out];rfl,rfl⟩
def FactsPost (r : List PFact × Int) (w : World) (e : Ending) (w' : World) : Prop :=
 Below w.heap.size w w' ∧ ∃ v,e = .returned (.tuple #[v,.int .i64 r.2]) ∧ Owned 2 RFact w.heap.size 27 (New w) w' v r.1
theorem facts_err {r : List PFact × Int} {n : Int} {w w' : World} (h : r = ([],n)) (hb : Below w.heap.size w w') : FactsPost r w (.returned (.tuple #[.slice none 0 0,.int .i64 n])) w' := by
 subst h;exact ⟨hb,_,rfl,Owned.nil⟩
theorem facts_ok {r : List PFact × Int} {l : List PFact} {w w' : World} {v : Value} (h : r = (l,0)) (hb : Below w.heap.size w w') (ho : Owned 2 RFact w.heap.size 27 (New w) w' v l) : FactsPost r w (.returned (.tuple #[v,.int .i64 0])) w' := by
 subst h;exact ⟨hb,_,rfl,ho⟩
theorem fillNone {S S2 : Nat → Prop} {a : PAtom} {tv lv : Value} {l : Binds} {w : World} (hfl : fillP a l = none) (ht : RdTerms S w tv a.terms) (hl : RdBinds S2 w lv l) (n1 : a.terms.length ≤ 1048576) (n2 : l.length ≤ 1073741824) :
 Calls Tryz.prog 31 #[.agg #[.bool a.neg,.string a.name,tv],lv] w fun e w' => e = .returned (.tuple #[.agg #[.string ⟨#[]⟩,.slice none 0 0],.bool false]) ∧ Below w.heap.size w w' :=
 (fillCalls a tv lv l w ht hl n1 n2).mono fun e w' ⟨h1,h2⟩ => by
  rw [hfl] at h2
  exact ⟨h2,h1⟩
theorem filterMap_snoc {α β : Type} {f : α → Option β} {l : List α} {k : Nat} {x : α} (h : l[k]? = some x) : (l.take (k + 1)).filterMap f = (l.take k).filterMap f ++ (f x).toList := by
 rw [List.take_add_one,h,List.filterMap_append]
 simp only [Option.toList]
 cases hf : f x <;> simp [hf]
theorem filterMap_le {α β : Type} (f : α → Option β) (l : List α) (k : Nat) : ((l.take k).filterMap f).length ≤ k :=
 Nat.le_trans (List.length_filterMap_le _ _) (by rw [List.length_take];exact Nat.min_le_left _ _)
theorem RdBindss.at' {S : Nat → Prop} {w : World} {a : Option Addr} {n cap : Nat} {l : List Binds} (h : RdBindss S w (.slice a n cap) l) {i : Nat} {x : Binds} (hx : l[i]? = some x) :
 ∃ b off v,a = some ⟨b,off,none⟩ ∧ S b ∧ b < w.heap.size ∧ w.cell? ⟨b,off + i,none⟩ = some v ∧ RdBinds S w v x := by
 obtain ⟨a',cap',hv,_,_,_,h3⟩ := h
 obtain ⟨b,off,cs,ha,hS,hb,hk,hc,v,hr,hq⟩ := h3 i x hx
 injection hv with e1 e2 e3
 subst e1
 subst hr
 exact ⟨b,off,v,ha,hS,hb,by simpa using hc 0 _ rfl,hq⟩
theorem RFact.behind {B : Nat} {w W1 w1 w2 : World} {v v1 : Value} {l : List PFact} {x : PFact} {B2 : Nat} (hown : Owned 2 RFact B2 27 (fun b => B ≤ b) w v l) (hB : B ≤ w.heap.size) (hle : w.heap.size ≤ W1.heap.size) (hr1 : RdStrs (New W1) w1 v1 x.args) (ha : Agree (New W1) w1 w2) :
 RFact (fun b => B ≤ b ∧ some b ≠ v.ownBlock) w2 [.string x.name,v1] x :=
 ⟨v1,rfl,(hr1.agree ζS ha).more ζS fun b hb _ => ⟨by omega,fun e => by have := (hown.row_lt e.symm).2;omega⟩⟩
attribute [local go_sem ↓] Go.wp_at_zero Go.wp_at_succ
set_option maxRecDepth 100000 in
set_option maxHeartbeats 0 in
theorem headsCalls {S S2 S3 : Nat → Prop} (x : PRule) (tv bv fv : Value) (facts : List PFact) (w : World) (ht : RdTerms S w tv x.head.terms) (hb : RdAtoms S2 w bv x.body) (hf : RdFacts S3 w fv facts)
 (hs : RuleSmall x) (n4 : facts.length ≤ 1048576) (n5 : ∀ x ∈ facts,x.args.length ≤ 1048576) :
 Calls Tryz.prog 42 #[.agg #[.bool x.head.neg,.string x.head.name,tv,bv],fv] w (FactsPost (headsP x facts) w) := by
 obtain ⟨ta,tc,rfl,-,-,-⟩ := id ht.form
 obtain ⟨ba,bc,rfl,-,-,-⟩ := id hb.form
 obtain ⟨fa,fc,rfl,-,-,-⟩ := id hf.form
 have HT := ζ ht
 have hn1 := hs.h1
 have HS := ζ hs
 obtain ⟨W0,hW0⟩ : ∃ W0 : World,w.alloc (.cells #[.bool x.head.neg,.string x.head.name,.slice ta x.head.terms.length tc,.slice ba x.body.length bc] 81) = W0 := ⟨_,rfl⟩
 have hb0 : Below w.heap.size w W0 := by subst hW0;exact (ζb _ _).alloc (ζn _) _
 have HK0 := ζ (show Blk W0 w.heap.size 81 #[.bool x.head.neg,.string x.head.name,.slice ta x.head.terms.length tc,.slice ba x.body.length bc] by subst hW0;exact Blk.new w _ _)
 have hs0 : W0.heap.size = w.heap.size + 1 := by subst hW0;simp
 have HB0 := ζ hb0
 have K := ζ (allReads (.slice ba x.body.length bc) x.body (.slice fa facts.length fc) facts W0 (hb.up hb0) (hf.up hb0) hs.b0 hs.b1 hs.b2 n4 n5)
 have HSH := ζ (all_short x.body facts)
 have HHP := ζ (show headsP x facts = if (allP x.body facts).2 ≠ 0 then ([],(allP x.body facts).2) else (ofF ((allP x.body facts).1.filterMap fun b => fillP x.head b),0) from rfl)
 have q3 : W0.cell? ⟨w.heap.size,3,none⟩ = some (.slice ba x.body.length bc) := HK0.out.cell 3
 clear ht hb hf hs n4 n5 hb0
 generalize allP x.body facts = r at *
 obtain ⟨ls,q⟩ := r
 dsimp only at *
 by_cases hq : q = 0
 case neg =>
  have g1 : (q != 0) = true := by simpa using hq
  have HE := ζ (show headsP x facts = ([],q) by rw [HHP.out,if_pos hq])
  clear hq HHP
  go_enter Tryz.func42,Tryz.ntmps42
  go_wp2_with (go_at_call 63;refine (K.out).mono ?_;rintro e w2 ⟨⟨a2,c2,rfl,hr2⟩,hb2⟩;have HB2 := ζ (HB0.out.trans (hb2.mono (Below.size HB0.out)));clear hr2 hb2)
  go_ret2
  exact facts_err HE.out HB2.out
 subst hq
 have HE := ζ (show headsP x facts = (ofF (ls.filterMap fun b => fillP x.head b),0) by rw [HHP.out,if_neg (by simp)])
 have hll : ls.length ≤ 20000 := HSH.out.1
 clear HHP
 go_enter Tryz.func42,Tryz.ntmps42
 go_wp2_with (go_at_call 63;refine (K.out).mono ?_;rintro e w2 ⟨⟨a2,c2,rfl,hr2⟩,hb2⟩;have HR2 := ζ hr2;have HB2 := ζ (HB0.out.trans (hb2.mono (Below.size HB0.out)));have HK2 := ζ (HK0.out.below hb2 HK0.out.lt);have hs2 : w.heap.size + 1 ≤ w2.heap.size := (by have := hb2.size;omega);clear hr2 hb2)
 clear K HK0 HB0 q3 hW0 hs0
 obtain ⟨wo,hwo⟩ : ∃ wo : World,wo = w2 := ⟨_,rfl⟩
 subst hwo
 have HB0 := ζ (ζb wo.heap.size wo)
 go_loopw [25,8] (fun i v wr => ∃ k : Nat,k ≤ ls.length ∧ i = .int .i64 k ∧ Hid (Owned 2 RFact wo.heap.size 27 (New wo) wr v ((ls.take k).filterMap fun b => fillP x.head b)) ∧ Hid (Below wo.heap.size wo wr)) (fun i _ _ => ls.length - (intOf i).toNat)
 case atStart => exact ⟨0,Nat.zero_le _,rfl,ζ Owned.nil,HB0⟩
 case round =>
  clear HB0
  obtain ⟨k,hk,rfl,HO,HB⟩ := hrel
  have HBW := ζ (HB2.out.trans (HB.out.mono (Below.size HB2.out)))
  have HKW := ζ (HK2.out.below HB.out HK2.out.lt)
  by_cases hlt : k < ls.length
  ·obtain ⟨l,hl⟩ : ∃ l,ls[k]? = some l := ⟨_,ζe hlt⟩
   obtain ⟨b1,o1,lv,rfl,-,hbl,d1,hlv⟩ := RdBindss.at' HR2.out hl
   have f1 := (ζl HB.out hbl _).trans d1
   have hnl : l.length ≤ 1073741824 := by have := HSH.out.2 l (ζm hl);omega
   have e0 : wr.cell? ⟨w.heap.size,0,none⟩ = some (.bool x.head.neg) := HKW.out.cell 0
   have e1 : wr.cell? ⟨w.heap.size,1,none⟩ = some (.string x.head.name) := HKW.out.cell 1
   have e2 : wr.cell? ⟨w.heap.size,2,none⟩ = some (.slice ta x.head.terms.length tc) := HKW.out.cell 2
   have HSN := ζ (filterMap_snoc (f := fun b => fillP x.head b) hl)
   have HLE := ζ (filterMap_le (fun b => fillP x.head b) ls k)
   have hsz := HB.out.size
   clear d1 hl
   cases hfl : fillP x.head l with
   | none =>
    have KF := ζ (fillNone hfl (HT.out.up HBW.out) (hlv.up HB.out) hn1 hnl)
    have HS1 := ζ (show (ls.take (k + 1)).filterMap (fun b => fillP x.head b) = (ls.take k).filterMap (fun b => fillP x.head b) by rw [HSN.out];simp [hfl])
    clear hfl hlv HSN
    go_wp2_with (go_at_call 31;refine (KF.out).mono ?_;rintro e w3 ⟨rfl,hb3⟩;have HB3 := ζ ((HB.out.trans (hb3.mono hsz)).alloc (Nat.le_trans hsz hb3.size) (.cells #[.string ⟨#[]⟩,.slice none 0 0] 27));have HO3 := ζ ((HO.out.below ζF hb3).alloc ζF (.cells #[.string ⟨#[]⟩,.slice none 0 0] 27));clear hb3)
    go_roundw
    case rel => exact ⟨k + 1,by omega,by go_num,by rw [HS1.out];exact HO3,HB3⟩
    case measure => simp [intOf];omega
   | some f =>
    have KF := ζ (fillKnown hfl (HT.out.up HBW.out) (hlv.up HB.out) hn1 hnl)
    have HS1 := ζ (show (ls.take (k + 1)).filterMap (fun b => fillP x.head b) = (ls.take k).filterMap (fun b => fillP x.head b) ++ [f] by rw [HSN.out];simp [hfl])
    clear hfl hlv HSN
    generalize (ls.take k).filterMap (fun b => fillP x.head b) = out at *
    have hol := HLE.out
    go_wp2_with (first
     | (go_at_call 31;refine (KF.out).mono ?_;rintro e w3 ⟨⟨av,ac,rfl,hr3⟩,hb3⟩;have HB3 := ζ (HB.out.trans (hb3.mono hsz));have HO3 := ζ (HO.out.below ζF hb3);have HR3 := ζ hr3;have hs3 : wr.heap.size ≤ w3.heap.size := hb3.size;clear hb3 hr3)
     | (at_builtin;refine wpList_append_one (B := wo.heap.size) (e := 27) (S := New wo) (by rfl) _ _ 24 (by rfl) ζF rowFacts _ out (by rfl) ((HO3.out.alloc ζF _).alloc ζF _) (w3.heap.size + 1) 1 #[.string f.name,.slice av f.args.length ac] 27 (0,0) f (by rfl) (heap_new_at (by simp)) rfl (by simp [Value.oneCell']) (RFact.behind HO.out hsz (ζn _) HR3.out (((Agree.refl _ _).alloc _).alloc _)) (by omega) (by simp;omega) ?_;intro v4 w4 hown4 hg4 hat4;rw [← HS1.out] at hown4;have HO4 := ζ hown4;have HB4 := ζ ((((HB3.out.alloc (by omega) _).alloc (by simp;omega) _).grown hg4 (by simp;omega) (fun q hq => (HO3.out.row_lt hq).1)));clear hown4 hg4 hat4))
    go_roundw
    case rel => exact ⟨k + 1,by omega,by go_num,HO4,HB4⟩
    case measure => simp [intOf];omega
  ·have htk : ls.take k = ls := List.take_of_length_le (by omega)
   rw [htk] at HO
   have hle : (ls.filterMap fun b => fillP x.head b).length ≤ 1073741824 := Nat.le_trans (List.length_filterMap_le _ _) (by omega)
   have hal : ∀ y ∈ ls.filterMap (fun b => fillP x.head b),y.args.length ≤ 1073741824 := fun y hy => by
    obtain ⟨b,-,hb⟩ := List.mem_filterMap.1 hy
    rw [fill_args hb];omega
   have KO := ζ (ofCalls _ _ wr (HO.out.read ζF) hle hal)
   clear htk hle hal
   generalize (ls.filterMap fun b => fillP x.head b) = out at *
   go_wp2_with (go_at_call 64;refine (KO.out).mono ?_;rintro e w3 ⟨⟨v3,rfl,ho3⟩,hb3⟩;obtain ⟨a3,c3,rfl,-,-,-⟩ := id (ho3.read ζF).form;have HB3 := ζ (HBW.out.trans (hb3.mono (Below.size HBW.out)));have HO3 := ζ ho3;clear hb3 ho3)
   go_ret2
   exact facts_ok HE.out HB3.out ((HO3.out.lower (Below.size HBW.out)).moreS ζF fun b hb _ => Nat.le_trans (Below.size HBW.out) hb)
end
section
open Go.RowKit
theorem rowAtoms : RowT Tryz.prog 79 78 3 := RowT.mk' (b := 48) (z := .agg #[.bool false,.string ⟨#[]⟩,.slice none 0 0]) Tryz.underlying79 (by kernel_rfl) (by omega) rfl (by omega)
theorem But.agree {B : Nat} {S : Nat → Prop} {w w' : World} (h : But B w w') (hS : ¬ S B) : Agree S w w' :=
 ⟨h.size,fun b hb hlt => h.block b hlt (fun e => hS (by rw [← Option.some.inj e];exact hb))⟩
attribute [local go_sem ↓] Go.wp_at_zero Go.wp_at_succ
end
section
open Go.RowKit
end
section
open Go.RowKit Go.Maps
theorem factsBad_set' {p : List PRule} {l : List PFact} (h : (setF l).1 ≠ 0) : factsBad p l = setF l := by unfold factsBad;rw [if_pos h]
theorem factsBad_hit {p : List PRule} {l : List PFact} {k : Nat} {f : PFact} (h0 : (setF l).1 = 0) (hx : l[k]? = some f) (hm : misfit p f = true) (hall : ∀ g ∈ l.take k,misfit p g = false) : factsBad p l = (8,(k : Int)) := by
 unfold factsBad
 rw [if_neg (by simpa using h0)]
 obtain ⟨hk,e⟩ := List.getElem?_eq_some_iff.1 hx
 have : l.findIdx? (misfit p) = some k := List.findIdx?_eq_some_iff_getElem.2 ⟨hk,by rw [e];exact hm,fun j hj => by
  rw [hall _ (List.mem_iff_getElem?.2 ⟨j,by rw [List.getElem?_take_of_lt hj];exact ζe (by omega)⟩)];simp⟩
 rw [this]
theorem factsBad_none {p : List PRule} {l : List PFact} (h0 : (setF l).1 = 0) (hall : ∀ g ∈ l,misfit p g = false) : factsBad p l = (0,0) := by
 unfold factsBad
 rw [if_neg (by simpa using h0),List.findIdx?_eq_none_iff.2 fun x hx => by simp [hall x hx]]
theorem named_size {s : Str} (h : named s = true) : s.size ≤ 12 := Classical.byContradiction fun hn => by
 rw [named_long s (by omega)] at h;cases h
structure FcW (w W : World) (mb n : Nat) (m : Known) : Prop where
 below : Below w.heap.size w W
 out : Blk W w.heap.size 49 #[.int .i64 0,.int .i64 0]
 map : MapI W mb n m
 gt : w.heap.size < mb
section
variable {w W W' : World} {mb n n' : Nat} {m m' : Known}
theorem FcW.next (h : FcW w W mb n m) (hb : Below W.heap.size W W') : FcW w W' mb n m := ⟨h.below.trans (hb.mono h.below.size),h.out.below hb h.out.lt,h.map.below hb h.map.lt,h.gt⟩
theorem FcW.alloc (h : FcW w W mb n m) (o : Obj) : FcW w (W.alloc o) mb n m := h.next ((ζb _ _).alloc (ζn _) o)
theorem FcW.lt (h : FcW w W mb n m) : mb < W.heap.size := h.map.lt
theorem FcW.grow {row : Option Nat} (h : FcW w W mb n m) (hg : W.grownBy W' row) (hr : ∀ q,row = some q → mb < q) : FcW w W' mb n m :=
 ⟨h.below.grown hg h.below.size (fun q hq => by have := hr q hq;have := h.gt;omega),h.out.grown hg (fun e => by have := hr _ e.symm;have := h.gt;omega),h.map.kept hg (fun e => by have := hr _ e.symm;omega),h.gt⟩
theorem FcW.put (h : FcW w W mb n m) (hg : W.grownBy W' (some mb)) (hm : MapI W' mb n' m') : FcW w W' mb n' m' :=
 ⟨h.below.grown hg h.below.size (fun q hq => by injection hq with e;have := h.gt;omega),h.out.grown hg (fun e => by injection e with e;have := h.gt;omega),hm,h.gt⟩
end
theorem atomsOf_snoc {p : List PRule} {k : Nat} {x : PRule} (h : p[k]? = some x) : atomsOf (p.take (k + 1)) = atomsOf (p.take k) ++ (x.head :: x.body) := by
 unfold atomsOf;rw [List.take_add_one,h,List.flatMap_append];simp
set_option maxRecDepth 100000 in
set_option maxHeartbeats 0 in
theorem factsCalls {S S2 : Nat → Prop} (p : List PRule) (v : Value) (fv : Value) (l : List PFact) (w : World) (h : RdRules S w v p) (hf : RdFacts S2 w fv l) (n1 : p.length ≤ 16) (n0 : ∀ r ∈ p,r.body.length ≤ 5) (n2 : ∀ r ∈ p,RuleSmall r) (n3 : ∀ r ∈ p,NameSmall r)
 (n4 : l.length ≤ 1048576) (n5 : ∀ x ∈ l,x.args.length ≤ 1048576) :
 Calls Tryz.prog 29 #[v,fv] w fun e w' => e = .returned (.agg #[.int .i64 (factsBad p l).1,.int .i64 (factsBad p l).2]) ∧ Below w.heap.size w w' := by
 obtain ⟨a,c,rfl,-,-,-⟩ := id h.form
 obtain ⟨fa,fc,rfl,-,-,-⟩ := id hf.form
 have H := ζ h
 have HFA := ζ hf
 have N0 := ζ n0
 have N2 := ζ n2
 have N3 := ζ n3
 have KS := ζ (fun W (hW : Below w.heap.size w W) => setCalls (.slice fa l.length fc) l W (hf.up hW) (by omega) (fun x hx => by have := n5 x hx;omega))
 clear h hf n0 n2 n3
 have HB0 := ζ ((ζb w.heap.size w).alloc (ζn _) (.cells #[.int .i64 0,.int .i64 0] 49))
 have HK0 := ζ (Blk.new w 49 #[.int .i64 0,.int .i64 0])
 by_cases hz : (setF l).1 = 0
 case neg =>
  have g1 : ((setF l).1 != 0) = true := by simpa using hz
  have HE := ζ (factsBad_set' (p := p) hz)
  clear hz
  generalize setF l = q at *
  obtain ⟨q1,q2⟩ := q
  dsimp only at *
  go_enter Tryz.func29,Tryz.ntmps29
  go_wp2_with (go_at_call 53;refine (KS.out _ HB0.out).mono ?_;rintro e w1 ⟨rfl,hb1⟩;have HB1 := ζ ((HB0.out.trans (hb1.mono (Below.size HB0.out))).alloc (Nat.le_trans (Below.size HB0.out) hb1.size) (.cells #[.int .i64 q1,.int .i64 q2] 49));have HK1 := ζ ((HK0.out.below hb1 HK0.out.lt).alloc (.cells #[.int .i64 q1,.int .i64 q2] 49));have c0 := HK1.out.cell 0;have c1 := HK1.out.cell 1;have f0 := HK1.out.frozen 0;have f1 := HK1.out.frozen 1;simp at c0 c1;clear hb1)
  refine bodyPost_ret (v := .agg #[.int .i64 q1,.int .i64 q2]) (by simp [results,Tryz.results29,go_sem,c0,c1]) rfl ⟨by rw [HE.out],?_⟩
  exact (HB1.out.setCell (ζn _) _).setCell (ζn _) _
 have hsf : setF l = (0,0) := setF_of (setF_set hz).1 (setF_set hz).2.1 (setF_set hz).2.2
 have HZ := ζ hz
 rw [hsf] at KS
 clear hz hsf
 have hmm := @run_makeMap Tryz.prog
 go_enter Tryz.func29,Tryz.ntmps29
 go_wp2_with (go_at_call 53;refine (KS.out _ HB0.out).mono ?_;rintro e w1 ⟨rfl,hb1⟩;have HB1 := ζ (HB0.out.trans (hb1.mono (Below.size HB0.out)));have HK1 := ζ (HK0.out.below hb1 HK0.out.lt);clear hb1)
 have HW0 := ζ (show FcW w ((w1.alloc (.cells #[.int .i64 0,.int .i64 0] 49)).alloc (.map #[] 0)) (w1.heap.size + 1) 0 (fun _ => none) from
  ⟨(HB1.out.alloc (Below.size HB1.out) _).alloc (by have := Below.size HB1.out;simp;omega) _,(HK1.out.alloc _).alloc _,by
    have hms : (w1.alloc (.cells #[.int .i64 0,.int .i64 0] 49)).heap.size = w1.heap.size + 1 := by simp
    have HM := MapI.made (w1.alloc (.cells #[.int .i64 0,.int .i64 0] 49))
    rw [hms] at HM
    exact HM,by have := HK1.out.lt;omega⟩)
 have hmp := HW0.out.gt
 generalize w1.heap.size + 1 = mb at *
 clear HB0 HK0 HB1 HK1 KS
 go_loopw [24] (fun i wr => ∃ (k n : Nat),k ≤ p.length ∧ i = .int .i64 k ∧ n ≤ k * 6 ∧ Hid (FcW w wr mb n ((atomsOf (p.take k)).foldl arityF fun _ => none))) (fun i _ => p.length - (intOf i).toNat)
 case atStart => exact ⟨0,0,Nat.zero_le _,rfl,Nat.zero_le _,HW0⟩
 case round =>
  clear HW0
  obtain ⟨k,n,hk,rfl,hn,HW⟩ := hrel
  by_cases hlt : k < p.length
  ·obtain ⟨x,hx⟩ : ∃ x,p[k]? = some x := ⟨_,ζe hlt⟩
   have hmem := ζm hx
   obtain ⟨b1,o1,tv,bv,rfl,-,hb1,d0,d1,d2,d3,htv,hbv⟩ := RdRules.at H.out hx
   obtain ⟨ta,tc,rfl,-,-,-⟩ := id htv.form
   obtain ⟨ba,bc,rfl,-,-,-⟩ := id hbv.form
   have HRA := ζ (show RuleAt S w b1 (o1 + k * 4) x (.slice ta x.head.terms.length tc) (.slice ba x.body.length bc) from ⟨hb1,d0,d1,d2,d3,htv,hbv⟩)
   have HS := ζ (N2.out x hmem)
   have HN := ζ (N3.out x hmem)
   have hb5 := N0.out x hmem
   have HSN := ζ (atomsOf_snoc hx)
   clear d0 d1 d2 d3
   obtain ⟨-,d0,d1,d2,d3,-,-⟩ := HRA.out.up HW.out.below
   have HW1 := ζ (HW.out.alloc (.cells #[.bool x.head.neg,.string x.head.name,.slice ta x.head.terms.length tc,.slice ba x.body.length bc] 81))
   have hwl := HW.out.lt
   have hwb := HW.out.below.size
   clear hx hmem htv hbv
   go_wp2_with (at_builtin;have HO6 := ζ (Owned.lit (k := 3) (R := RAtom) (B := wr.heap.size + 1) (e := 78) (S := fun q => q < w.heap.size) (w := wr.alloc (.cells #[.bool x.head.neg,.string x.head.name,.slice ta x.head.terms.length tc,.slice ba x.body.length bc] 81)) (l := [x.head]) [[.bool x.head.neg,.string x.head.name,.slice ta x.head.terms.length tc]] #[.bool x.head.neg,.string x.head.name,.slice ta x.head.terms.length tc] rfl (by simp) (by simp) rfl (by simp) (by simp [maxLen]) (fun i c z hc hz => by
    rcases i with _ | i
    ·simp at hc hz
     subst hc hz
     exact ⟨_,rfl,((HRA.out.t.more (S' := fun q => q < w.heap.size ∧ some q ≠ some (wr.heap.size + 1)) RTerm.steady (fun q _ hq => ⟨hq,fun e => by injection e with e;omega⟩)).agree RTerm.steady ⟨(HW1.out.alloc _).below.size,fun q hq _ => (HW1.out.alloc _).below.block q hq.1⟩) |> fun hh => by simpa using hh⟩
    ·simp at hc));have hq9 : (wr.alloc (.cells #[.bool x.head.neg,.string x.head.name,.slice ta x.head.terms.length tc,.slice ba x.body.length bc] 81)).heap.size = wr.heap.size + 1 := (by simp);rw [hq9] at HO6;clear hq9;refine wpList_append_many (B := wr.heap.size + 1) (e := 78) (S := fun q => q < w.heap.size) (by rfl) _ _ 79 (by rfl) RAtom.steady RAtom.one rowAtoms _ [x.head] (by rfl) HO6.out (.slice ba x.body.length bc) x.body (by rfl) ((HRA.out.b.more (S' := fun q => q < w.heap.size) RAtom.steady (fun q _ hq => hq)).agree RAtom.steady ⟨(HW1.out.alloc _).below.size,fun q hq _ => (HW1.out.alloc _).below.block q hq⟩) (fun cs x' hr => RAtom.steady.more (fun q hq _ => ⟨hq,fun e => by have := (HO6.out.row_lt e.symm).1;omega⟩) hr) (by simp;omega) (by simp) ?_;intro v7 w7 hown7 hg7 hat7;have HO7 := ζ (show Owned 3 RAtom (wr.heap.size + 1) 78 (fun q => q < w.heap.size) w7 v7 (x.head :: x.body) from hown7);have HW7 := ζ ((HW1.out.alloc _).grow hg7 (fun q hq => by have := (HO6.out.row_lt hq).1;omega));obtain ⟨a7,c7,rfl,-,-,-⟩ := id (HO7.out.read RAtom.steady).form;clear hown7 hg7 hat7)
   have HRL := ζ (show RdAtoms (fun b => b < w.heap.size ∨ wr.heap.size + 1 ≤ b) w7 (.slice a7 (x.head :: x.body).length c7) (x.head :: x.body) from HO7.out.read RAtom.steady)
   have HSM := ζ (show ∀ y ∈ x.head :: x.body,y.terms.length ≤ 1048576 ∧ y.name.size ≤ 1048576 from fun y hy => by
    rcases List.mem_cons.1 hy with rfl | hy
    ·exact ⟨HS.out.h1,HN.out.h⟩
    ·exact ⟨HS.out.b1 y hy,HN.out.b y hy⟩)
   obtain ⟨l2,hl2⟩ : ∃ l2,x.head :: x.body = l2 := ⟨_,rfl⟩
   have hl6 : l2.length ≤ 6 := by rw [← hl2];simp only [List.length_cons];omega
   have hlen2 : (x.head :: x.body).length = l2.length := by rw [hl2]
   rw [hl2] at HRL HSM HSN
   have hlc : x.body.length + 1 = l2.length := by rw [← hl2];rfl
   clear HW1 HW HO6 HO7 d0 d1 d2 d3 hl2
   have HF0 := ζ (show FcW w w7 mb n ((atomsOf (p.take k) ++ l2.take 0).foldl arityF fun _ => none) by simpa using HW7.out)
   have hn0 : n ≤ k * 6 + 0 := hn
   try simp only [List.length_cons] at *
   have hlcI : (x.body.length : Int) + 1 = (l2.length : Int) := by omega
   try rw [hlcI]
   try rw [hlc] at *
   clear hlcI HW7
   go_loopw [35] (fun i wx => ∃ (j n' : Nat),j ≤ l2.length ∧ i = .int .i64 j ∧ n' ≤ k * 6 + j ∧ Hid (FcW w wx mb n' ((atomsOf (p.take k) ++ l2.take j).foldl arityF fun _ => none)) ∧ Hid (RdAtoms (fun b => b < w.heap.size ∨ wr.heap.size + 1 ≤ b) wx (.slice a7 l2.length c7) l2)) (fun i _ => l2.length - (intOf i).toNat)
   case atStart => exact ⟨0,n,Nat.zero_le _,rfl,hn0,HF0,HRL⟩
   case round =>
    clear HF0 HRL hn0 hlc hlen2 hn hk
    obtain ⟨j,n',hj,rfl,hn',HW,HRL⟩ := hrel
    by_cases hlj : j < l2.length
    ·obtain ⟨y,hy⟩ : ∃ y,l2[j]? = some y := ⟨_,ζe hlj⟩
     obtain ⟨b4,o4,yv,rfl,hS4,hb4,e0,e1,e2,hyv⟩ := RdAtoms.at HRL.out hy
     obtain ⟨ya,yc,rfl,-,-,-⟩ := id hyv.form
     obtain ⟨ny1,ny2⟩ := HSM.out y (ζm hy)
     have HW6 := ζ (HW.out.alloc (.cells #[.bool y.neg,.string y.name,.slice ya y.terms.length yc] 78))
     have HRL6 := ζ (HRL.out.agree RAtom.steady ((Agree.refl _ _).alloc (.cells #[.bool y.neg,.string y.name,.slice ya y.terms.length yc] 78)))
     have hys : y.name.size ≤ maxLen := by unfold maxLen;omega
     obtain ⟨w8,hput,hm8,hg8⟩ := HW6.out.map.put (by unfold maxLen;omega) (s := y.name) hys (x := (y.terms.length : Int)) (WalkArith.wf_i64 (by omega))
     have HSJ := ζ (show ((atomsOf (p.take k) ++ l2.take (j + 1)).foldl arityF fun _ => none) = fun t => if t = y.name then some (y.terms.length : Int) else ((atomsOf (p.take k) ++ l2.take j).foldl arityF fun _ => none) t by
      rw [List.take_add_one,hy,← List.append_assoc,List.foldl_append];rfl)
     have HW8 := ζ (show FcW w w8 mb (n' + 1) ((atomsOf (p.take k) ++ l2.take (j + 1)).foldl arityF fun _ => none) by rw [HSJ.out];exact HW6.out.put hg8 hm8)
     have HRL8 := ζ (HRL6.out.agree RAtom.steady (w' := w8) ⟨hg8.size,fun b hb hlt => hg8.block b hlt (fun e => by injection e with e;omega)⟩)
     clear hy hyv hm8 hg8 HRL HW HSJ HRL6 HW6
     go_wp2
     go_roundw
     case rel => exact ⟨j + 1,n' + 1,by omega,by go_num,by omega,HW8,HRL8⟩
     case measure => simp [intOf];omega
    ·have HW2 := ζ (show FcW w _ mb n' ((atomsOf (p.take (k + 1))).foldl arityF fun _ => none) by
      have h1 := HW.out
      rw [List.take_of_length_le (l := l2) (by omega)] at h1
      rw [HSN.out];exact h1)
     go_wp2
     go_roundw
     case rel => exact ⟨k + 1,n',by omega,by go_num,by omega,HW2⟩
     case measure => simp [intOf];omega
  ·rw [List.take_of_length_le (by omega)] at HW
   have HM := ζ (show arityP p = (atomsOf p).foldl arityF fun _ => none from rfl)
   rw [← HM.out] at HW
   clear HM H N0 N2 N3
   go_wp2
   obtain ⟨wo,hwo⟩ : ∃ wo : World,wo = wr := ⟨_,rfl⟩
   subst hwo
   go_loopw [49] (fun i wx => ∃ (j : Nat),j ≤ l.length ∧ i = .int .i64 j ∧ Hid (FcW w wx mb n (arityP p)) ∧ Hid (∀ g ∈ l.take j,misfit p g = false)) (fun i _ => l.length - (intOf i).toNat)
   case atStart => exact ⟨0,Nat.zero_le _,rfl,HW,ζ (by simp)⟩
   case round =>
    clear HW hlt hk hn
    obtain ⟨j,hj,rfl,HW,HA⟩ := hrel
    by_cases hlj : j < l.length
    ·obtain ⟨f,hy⟩ : ∃ y,l[j]? = some y := ⟨_,ζe hlj⟩
     have hfw := (setF_set HZ.out).2.2 f (ζm hy)
     have hys : f.name.size ≤ maxLen := by have := named_size (wrongF_zero.1 hfw).1;unfold maxLen;omega
     obtain ⟨b4,o4,av,rfl,-,hb4,e0,e1,hav⟩ := RdFacts.at (HFA.out.up HW.out.below) hy
     obtain ⟨xa,xc,rfl,-,-,-⟩ := id hav.form
     have HW6 := ζ (HW.out.alloc (.cells #[.string f.name,.slice xa f.args.length xc] 27))
     have hget := HW6.out.map.getOk hys
     have HMF := ζ (show misfit p f = match arityP p f.name with | none => false | some k => k != (f.args.length : Int) from rfl)
     have HA1 := ζ (show misfit p f = false → ∀ g ∈ l.take (j + 1),misfit p g = false from fun h g hg => by
      rw [List.take_add_one,hy] at hg
      rcases List.mem_append.1 hg with hg | hg
      ·exact HA.out g hg
      ·obtain rfl : g = f := by simpa using hg
       exact h)
     have HH := ζ (fun h => factsBad_hit (p := p) HZ.out hy h HA.out)
     clear hy hav hfw
     cases hv : arityP p f.name with
     | none =>
      rw [hv] at hget HMF
      simp only [Option.isSome,Option.getD] at hget
      have HA2 := ζ (HA1.out HMF.out)
      clear hv HA1 HMF HH
      go_wp2
      go_roundw
      case rel => exact ⟨j + 1,by omega,by go_num,HW6,HA2⟩
      case measure => simp [intOf];omega
     | some z =>
      rw [hv] at hget HMF
      simp only [Option.isSome,Option.getD] at hget
      cases hzz : (z != (f.args.length : Int))
      ·have HA2 := ζ (HA1.out (HMF.out.trans hzz))
       clear hv HA1 HMF HH
       go_wp2
       go_roundw
       case rel => exact ⟨j + 1,by omega,by go_num,HW6,HA2⟩
       case measure => simp [intOf];omega
      ·have HE := ζ (HH.out (HMF.out.trans hzz))
       have c0 := HW6.out.out.cell 0;have c1 := HW6.out.out.cell 1;have f0 := HW6.out.out.frozen 0;have f1 := HW6.out.out.frozen 1
       simp at c0 c1
       clear hv HA1 HMF HH
       go_wp2
       refine bodyPost_ret (v := .agg #[.int .i64 8,.int .i64 j]) (by simp [results,Tryz.results29,go_sem,c0,c1]) rfl ⟨by rw [HE.out],?_⟩
       exact (HW6.out.below.setCell (ζn _) _).setCell (ζn _) _
    ·have HE := ζ (factsBad_none (p := p) HZ.out (by have := HA.out;rwa [List.take_of_length_le (by omega)] at this))
     have c0 := HW.out.out.cell 0;have c1 := HW.out.out.cell 1;have f0 := HW.out.out.frozen 0;have f1 := HW.out.out.frozen 1
     simp at c0 c1
     go_wp2
     refine bodyPost_ret (v := .agg #[.int .i64 0,.int .i64 0]) (by simp [results,Tryz.results29,go_sem,c0,c1]) rfl ⟨by rw [HE.out],?_⟩
     exact (HW.out.below.setCell (ζn _) _).setCell (ζn _) _
end
end Go.Proofs.YtdngkcieckejoaaGreat
