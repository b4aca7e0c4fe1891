/-
  THE TEXTS In, SetW, MatchL, StrataP, NaiveP, MapW, StrataQ, one behind the other.
-/
import Derived.Test.YtdngkcieckejoaaGreatPk1
import Derived.Test.YtdngkcieckejoaaGreatPk2
import Derived.Deep.QuietTactic
import Derived.BigQuiet
import Derived.Maps.OwnSet
import Derived.Maps.OwnOps
namespace Go.Proofs.YtdngkcieckejoaaGreat
section
open Go.RowKit
attribute [local go_sem ↓] Go.wp_at_zero Go.wp_at_succ
set_option maxRecDepth 100000 in
set_option maxHeartbeats 0 in
theorem searchFact {S T : Nat → Prop} (v : Value) (l : List PFact) (f : PFact) (av : Value) (w : World) (h : RdFacts S w v l) (hf : RdStrs T w av f.args) (hs : Rising l)
 (n1 : l.length ≤ 1073741824) (n2 : ∀ x ∈ l,x.args.length ≤ 1073741824) :
 Calls Tryz.prog 38 #[v,.agg #[.string f.name,av],.func (.func 39) #[] #[]] w fun e w' => (∃ i : Int,e = .returned (.tuple #[.int .i64 i,.bool (memF f l)])) ∧ Fresh w w' := by
 obtain ⟨a,c,rfl,-,-,-⟩ := id h.form
 obtain ⟨fa,fc,rfl,-,-,-⟩ := id hf.form
 have H := ζ h
 have HF := ζ hf
 have N2 := ζ n2
 have HS := ζ hs
 clear h hf n2 hs
 have hW : Hid (Agree (fun _ => True) w (w.alloc (.cells #[.string f.name,.slice fa f.args.length fc] 27))) := (Agree.refl _ _).alloc _
 have hc0 : (w.alloc (.cells #[.string f.name,.slice fa f.args.length fc] 27)).cell? ⟨w.heap.size,0,none⟩ = some (.string f.name) := by simp
 have hc1 : (w.alloc (.cells #[.string f.name,.slice fa f.args.length fc] 27)).cell? ⟨w.heap.size,1,none⟩ = some (.slice fa f.args.length fc) := by simp
 have hw0 : Hid (Fresh w (w.alloc (.cells #[.string f.name,.slice fa f.args.length fc] 27))) := (Fresh.refl _).alloc _
 have hcs : w.heap.size < (w.alloc (.cells #[.string f.name,.slice fa f.args.length fc] 27)).heap.size := by simp
 go_enter Tryz.func38,Tryz.ntmps38
 go_wp2
 generalize w.alloc (.cells #[.string f.name,.slice fa f.args.length fc] 27) = w0 at *
 go_loopw [9,10,11] (fun ui uj _ wr => ∃ i j : Nat,i ≤ j ∧ j ≤ l.length ∧ ui = .int .i64 i ∧ uj = .int .i64 j ∧ Hid (∀ a x,a < i → l[a]? = some x → cmpFact x f < 0) ∧ Hid (∀ a x,j ≤ a → l[a]? = some x → 0 ≤ cmpFact x f) ∧ Fresh w0 wr)
  (fun ui uj _ _ => (intOf uj - intOf ui).toNat)
 case atStart => exact ⟨0,l.length,Nat.zero_le _,ζn _,rfl,rfl,fun a x h => by omega,fun a x h hx => by have := (List.getElem?_eq_some_iff.1 hx).1;omega,Fresh.refl _⟩
 case round =>
  obtain ⟨i,j,hij,hj,rfl,rfl,hlo,hhi,hfr⟩ := hrel
  have hwr : Hid (Agree (fun _ => True) w wr) := hW.out.trans (Below.agree hfr.below)
  have hd0 := (ζl hfr.below hcs 0).trans hc0
  have hd1 := (ζl hfr.below hcs 1).trans hc1
  have hds : w.heap.size < wr.heap.size := Nat.lt_of_lt_of_le hcs hfr.below.size
  have HFR := ζ hfr
  clear hfr hc0 hc1 hcs hW
  by_cases hlt : i < j
  ·obtain ⟨m,hm⟩ : ∃ m : Nat,((i : Int) + j) / 2 = m := ⟨(i + j) / 2,by omega⟩
   have hm1 : i ≤ m := by omega
   have hm2 : m < j := by omega
   obtain ⟨x,hx⟩ : ∃ x,l[m]? = some x := ⟨_,ζe (by omega)⟩
   have hn2 : x.args.length ≤ 1073741824 := N2.out x (ζm hx)
   obtain ⟨b1,o1,xv,rfl,-,hb1,hx0,hx1,hxv⟩ := RdFacts.at ((H.out.more ζF (fun _ _ _ => trivial)).agree ζF hwr.out) hx
   obtain ⟨xa,xc,rfl,-,-,-⟩ := id hxv.form
   have K := ζ (fun W (ha : Agree (fun _ => True) wr W) => compareFact x f (.slice xa x.args.length xc) (.slice fa f.args.length fc) W (hxv.agree ζS ha) ((HF.out.more ζS (fun _ _ _ => trivial)).agree ζS (hwr.out.trans ha)) hn2)
   obtain ⟨q,hq⟩ : ∃ q,cmpFact x f = q := ⟨_,rfl⟩
   rw [hq] at K
   have HX := ζ hx
   have HQ := ζ hq
   have i1 : (0 : Int) ≤ (m : Int) := by omega
   have i2 : (m : Int) < (l.length : Int) := by omega
   clear hxv hx hq hwr
   by_cases hz : q < 0
   ·go_wp2_with fail
    go_region_held3 (fun w' => w'.cell? ⟨b1,o1 + m * 2,none⟩ = some (.string x.name) ∧ w'.cell? ⟨b1,o1 + m * 2 + 1,none⟩ = some (.slice xa x.args.length xc) ∧
     w'.cell? ⟨w.heap.size,0,none⟩ = some (.string f.name) ∧ w'.cell? ⟨w.heap.size,1,none⟩ = some (.slice fa f.args.length fc))
     (first | (refine ⟨?_,?_,?_,?_⟩ <;> (first | (rw [hk2 _ hb1];assumption) | (rw [hk2 _ hds];assumption))) | go_keep)
     (first
      | (go_at_call 39;refine (K.out _ (Agree.refl _ _).drew).mono ?_;rintro e w1 ⟨rfl,hf1⟩;have hk2 : ∀ c,c < wr.heap.size → ∀ off,w1.cell? ⟨c,off,none⟩ = wr.cell? ⟨c,off,none⟩ := fun c hc off => ζl (w := wr.drew) hf1.below hc off))
    have HF2 : Hid (Fresh w0 w1) := (HFR.out.drew).trans hf1
    clear hf1 hk2 hd0 hd1 hx0 hx1
    go_wp2
    go_roundw
    case rel =>
     refine ⟨m + 1,j,by omega,hj,by go_num,rfl,?_,hhi,HF2.out⟩
     intro a y ha hy
     by_cases e : a = m
     ·subst e
      rw [HX.out] at hy
      injection hy with hy
      rw [← hy,HQ.out];exact hz
     ·have h1 : ltF y x = true := by
       have := HS.out
       obtain ⟨_,rfl⟩ := List.getElem?_eq_some_iff.1 hy
       obtain ⟨_,rfl⟩ := List.getElem?_eq_some_iff.1 HX.out
       exact List.pairwise_iff_getElem.1 this a m _ _ (by omega)
      have h2 : cmpFact y x < 0 := by simpa [ltF] using h1
      exact cmpFact3.trans _ _ _ h2 (by rw [HQ.out];exact hz)
    case measure => simp [intOf];omega
   ·go_wp2_with fail
    go_region_held3 (fun w' => w'.cell? ⟨b1,o1 + m * 2,none⟩ = some (.string x.name) ∧ w'.cell? ⟨b1,o1 + m * 2 + 1,none⟩ = some (.slice xa x.args.length xc) ∧
     w'.cell? ⟨w.heap.size,0,none⟩ = some (.string f.name) ∧ w'.cell? ⟨w.heap.size,1,none⟩ = some (.slice fa f.args.length fc))
     (first | (refine ⟨?_,?_,?_,?_⟩ <;> (first | (rw [hk2 _ hb1];assumption) | (rw [hk2 _ hds];assumption))) | go_keep)
     (first
      | (go_at_call 39;refine (K.out _ (Agree.refl _ _).drew).mono ?_;rintro e w1 ⟨rfl,hf1⟩;have hk2 : ∀ c,c < wr.heap.size → ∀ off,w1.cell? ⟨c,off,none⟩ = wr.cell? ⟨c,off,none⟩ := fun c hc off => ζl (w := wr.drew) hf1.below hc off))
    have HF2 : Hid (Fresh w0 w1) := (HFR.out.drew).trans hf1
    clear hf1 hk2 hd0 hd1 hx0 hx1
    go_wp2
    go_roundw
    case rel =>
     refine ⟨i,m,by omega,by omega,rfl,rfl,hlo,?_,HF2.out⟩
     intro a y ha hy
     by_cases e : a = m
     ·subst e
      rw [HX.out] at hy
      injection hy with hy
      rw [← hy,HQ.out];omega
     ·have h1 : ltF x y = true := by
       have := HS.out
       obtain ⟨_,rfl⟩ := List.getElem?_eq_some_iff.1 hy
       obtain ⟨_,rfl⟩ := List.getElem?_eq_some_iff.1 HX.out
       exact List.pairwise_iff_getElem.1 this m a _ _ (by omega)
      have h2 : cmpFact x y < 0 := by simpa [ltF] using h1
      refine Int.not_lt.1 fun h3 => ?_
      have := cmpFact3.trans _ _ _ h2 h3
      rw [HQ.out] at this
      omega
    case measure => simp [intOf];omega
  ·obtain rfl : i = j := by omega
   by_cases hin : i < l.length
   ·obtain ⟨x,hx⟩ : ∃ x,l[i]? = some x := ⟨_,ζe (by omega)⟩
    have hn2 : x.args.length ≤ 1073741824 := N2.out x (ζm hx)
    obtain ⟨b1,o1,xv,rfl,-,hb1,hx0,hx1,hxv⟩ := RdFacts.at ((H.out.more ζF (fun _ _ _ => trivial)).agree ζF hwr.out) hx
    obtain ⟨xa,xc,rfl,-,-,-⟩ := id hxv.form
    have K := ζ (fun W (ha : Agree (fun _ => True) wr W) => compareFact x f (.slice xa x.args.length xc) (.slice fa f.args.length fc) W (hxv.agree ζS ha) ((HF.out.more ζS (fun _ _ _ => trivial)).agree ζS (hwr.out.trans ha)) hn2)
    have hmem : memF f l = (cmpFact x f == 0) := by
     rw [Bool.eq_iff_iff,memF_iff,beq_iff_eq,cmpFact3.zero]
     constructor
     ·intro hfm
      obtain ⟨p,hp⟩ := List.mem_iff_getElem?.1 hfm
      by_cases h1 : p < i
      ·have := hlo.out p f h1 hp;rw [cmpFact3.self] at this;omega
      ·by_cases h2 : p = i
       ·subst h2;rw [hx] at hp;exact Option.some.inj hp
       ·have h3 : ltF x f = true := by
         have := HS.out
         obtain ⟨_,rfl⟩ := List.getElem?_eq_some_iff.1 hp
         obtain ⟨_,rfl⟩ := List.getElem?_eq_some_iff.1 hx
         exact List.pairwise_iff_getElem.1 this i p _ _ (by omega)
        have h4 : cmpFact x f < 0 := by simpa [ltF] using h3
        have := hhi.out i x (ζn _) hx
        omega
     ·intro e;subst e;exact ζm hx
    obtain ⟨q,hq⟩ : ∃ q,cmpFact x f = q := ⟨_,rfl⟩
    rw [hq] at K hmem
    have HM := ζ hmem
    have i1 : (0 : Int) ≤ (i : Int) := by omega
    have i2 : (i : Int) < (l.length : Int) := by omega
    have i3 : decide ((i : Int) < (l.length : Int)) = true := decide_eq_true i2
    have i4 : decide (i < l.length) = true := decide_eq_true hin
    clear hxv hx hq hwr hmem
    go_wp2_with fail
    go_region_held3 (fun w' => w'.cell? ⟨b1,o1 + i * 2,none⟩ = some (.string x.name) ∧ w'.cell? ⟨b1,o1 + i * 2 + 1,none⟩ = some (.slice xa x.args.length xc) ∧
     w'.cell? ⟨w.heap.size,0,none⟩ = some (.string f.name) ∧ w'.cell? ⟨w.heap.size,1,none⟩ = some (.slice fa f.args.length fc))
     (first | (refine ⟨?_,?_,?_,?_⟩ <;> (first | (rw [hk2 _ hb1];assumption) | (rw [hk2 _ hds];assumption))) | go_keep)
     (first
      | (go_at_call 39;refine (K.out _ (Agree.refl _ _).drew).mono ?_;rintro e w1 ⟨rfl,hf1⟩;have hk2 : ∀ c,c < wr.heap.size → ∀ off,w1.cell? ⟨c,off,none⟩ = wr.cell? ⟨c,off,none⟩ := fun c hc off => ζl (w := wr.drew) hf1.below hc off))
    have HF2 : Hid (Fresh w0 w1) := (HFR.out.drew).trans hf1
    clear hf1 hk2 hd0 hd1 hx0 hx1
    go_wp2
    go_ret2
    exact ⟨⟨i,by rw [HM.out];rfl⟩,(hw0.out).trans HF2.out⟩
   ·have hmem : memF f l = false := by
     rw [← Bool.not_eq_true,memF_iff]
     intro hfm
     obtain ⟨p,hp⟩ := List.mem_iff_getElem?.1 hfm
     have := hlo.out p f (by have := (List.getElem?_eq_some_iff.1 hp).1;omega) hp
     rw [cmpFact3.self] at this;omega
    have HM := ζ hmem
    clear hmem
    have i3 : decide ((i : Int) < (l.length : Int)) = false := decide_eq_false (by omega)
    have i4 : decide (i < l.length) = false := decide_eq_false hin
    go_wp2_with fail
    go_quiet (fail)
    go_wp2
    go_ret2
    exact ⟨⟨i,by rw [HM.out];rfl⟩,(hw0.out).trans (HFR.out.trans ⟨nq,#[],by simp⟩)⟩
theorem inFact {S T : Nat → Prop} (v : Value) (l : List PFact) (f : PFact) (av : Value) (w : World) (h : RdFacts S w v l) (hf : RdStrs T w av f.args) (hs : Rising l)
 (n1 : l.length ≤ 1073741824) (n2 : ∀ x ∈ l,x.args.length ≤ 1073741824) :
 Calls Tryz.prog 17 #[v,.agg #[.string f.name,av]] w fun e w' => e = .returned (.bool (memF f l)) ∧ Fresh w w' := by
 obtain ⟨a,c,rfl,-,-,-⟩ := id h.form
 obtain ⟨fa,fc,rfl,-,-,-⟩ := id hf.form
 have K := ζ (fun W (ha : Agree (fun _ => True) w W) => searchFact (.slice a l.length c) l f (.slice fa f.args.length fc) W ((h.more ζF (fun _ _ _ => trivial)).agree ζF ha) ((hf.more ζS (fun _ _ _ => trivial)).agree ζS ha) hs n1 n2)
 clear h hf hs n2
 go_enter Tryz.func17,Tryz.ntmps17
 go_wp2_with (go_at_call 38;refine (K.out _ ((Agree.refl _ _).alloc _)).mono ?_;rintro e w1 ⟨⟨i,rfl⟩,hf1⟩)
 go_ret
 exact ⟨rfl,((Fresh.refl _).alloc _).trans hf1⟩
end
section
open Go.RowKit
def badAt (l : List PFact) (i : Nat) : Int :=
 match l[i]? with
 | none => 0
 | some f => if wrongF f ≠ 0 then wrongF f else match i with
  | 0 => 0
  | j + 1 => match l[j]? with
   | none => 0
   | some g => if cmpFact g f < 0 then 0 else 2
def setF (l : List PFact) : Int × Int :=
 if 200 < l.length then (5,0) else match (List.range l.length).find? (fun i => badAt l i != 0) with
  | none => (0,0)
  | some i => (badAt l i,(i : Int))
theorem setF_many {l : List PFact} (h : 200 < l.length) : setF l = (5,0) := by simp [setF,h]
theorem setF_at {l : List PFact} (h : ¬ 200 < l.length) {i : Nat} (hi : i < l.length) (h0 : ∀ j,j < i → badAt l j = 0) (hb : badAt l i ≠ 0) : setF l = (badAt l i,(i : Int)) := by
 have : (List.range l.length).find? (fun i => badAt l i != 0) = some i := by
  rw [List.find?_range_eq_some]
  refine ⟨by simpa using hb,by simpa using hi,fun j hj => by simp [h0 j hj]⟩
 simp [setF,h,this]
theorem setF_ok {l : List PFact} (h : ¬ 200 < l.length) (h0 : ∀ j,j < l.length → badAt l j = 0) : setF l = (0,0) := by
 have : (List.range l.length).find? (fun i => badAt l i != 0) = none := by
  rw [List.find?_range_eq_none]
  intro j hj;simp [h0 j (by simpa using hj)]
 simp [setF,h,this]
theorem badAt_wrong {l : List PFact} {i : Nat} {f : PFact} (h : l[i]? = some f) (hw : wrongF f ≠ 0) : badAt l i = wrongF f := by simp [badAt,h,hw]
theorem badAt_zero {l : List PFact} {f : PFact} (h : l[0]? = some f) (hw : wrongF f = 0) : badAt l 0 = 0 := by simp [badAt,h,hw]
theorem badAt_succ {l : List PFact} {i : Nat} {f g : PFact} (h : l[i + 1]? = some f) (k : l[i]? = some g) (hw : wrongF f = 0) : badAt l (i + 1) = if cmpFact g f < 0 then 0 else 2 := by simp [badAt,h,k,hw]
theorem past_cell {w w' : World} {o : Obj} (h : Below (w.alloc o).heap.size (w.alloc o) w') {c : Nat} (hc : c < w.heap.size) (off : Nat) : w'.cell? ⟨c,off,none⟩ = w.cell? ⟨c,off,none⟩ :=
 (ζl h (by simp;omega) off).trans (World.cell?_of_block (Below.heap_alloc _ _ _ hc))
theorem past_frozen {w w' : World} {o : Obj} (h : Below (w.alloc o).heap.size (w.alloc o) w') {c : Nat} (hc : c < w.heap.size) (off : Nat) : w'.frozen? ⟨c,off,none⟩ = w.frozen? ⟨c,off,none⟩ :=
 (h.frozen (p := ⟨c,off,none⟩) (by simp;omega)).trans (World.frozen?_of_block (Below.heap_alloc _ _ _ hc))
attribute [local go_sem ↓] Go.wp_at_zero Go.wp_at_succ
set_option maxRecDepth 100000 in
set_option maxHeartbeats 0 in
theorem setCalls {S : Nat → Prop} (v : Value) (l : List PFact) (w : World) (h : RdFacts S w v l) (n1 : l.length ≤ 1073741824) (n2 : ∀ x ∈ l,x.args.length ≤ 1073741824) :
 Calls Tryz.prog 53 #[v] w fun e w' => e = .returned (.agg #[.int .i64 (setF l).1,.int .i64 (setF l).2]) ∧ Below w.heap.size w w' := by
 obtain ⟨a,c,rfl,-,-,-⟩ := id h.form
 have H := ζ h
 have N2 := ζ n2
 clear h n2
 by_cases hmany : 200 < l.length
 ·have hs := setF_many hmany
  obtain ⟨q,hq⟩ : ∃ q,setF l = q := ⟨_,rfl⟩
  rw [hq] at hs ⊢
  subst hs
  have i1 : (200 : Int) < (l.length : Int) := by omega
  go_enter Tryz.func53,Tryz.ntmps53
  go_wp2
  refine bodyPost_ret (v := .agg #[.int .i64 5,.int .i64 0]) (by simp [results,Tryz.results53,go_sem]) rfl ⟨rfl,?_⟩
  exact (ζb _ _).alloc (ζn _) _
 ·have i0 : ¬ ((200 : Int) < (l.length : Int)) := by omega
  go_enter Tryz.func53,Tryz.ntmps53
  go_wp2
  have c0 : (w.alloc (.cells #[.int .i64 0,.int .i64 0] 49)).cell? ⟨w.heap.size,0,none⟩ = some (.int .i64 0) := by simp
  have c1 : (w.alloc (.cells #[.int .i64 0,.int .i64 0] 49)).cell? ⟨w.heap.size,1,none⟩ = some (.int .i64 0) := by simp
  have f0 : (w.alloc (.cells #[.int .i64 0,.int .i64 0] 49)).frozen? ⟨w.heap.size,0,none⟩ = false := by simp
  have f1 : (w.alloc (.cells #[.int .i64 0,.int .i64 0] 49)).frozen? ⟨w.heap.size,1,none⟩ = false := by simp
  have hz0 : w.heap.size < (w.alloc (.cells #[.int .i64 0,.int .i64 0] 49)).heap.size := by simp
  have HB := ζ ((ζb w.heap.size w).alloc (ζn _) (.cells #[.int .i64 0,.int .i64 0] 49))
  generalize w.alloc (.cells #[.int .i64 0,.int .i64 0] 49) = w0 at *
  go_loopw [12] (fun i wr => ∃ k : Nat,k ≤ l.length ∧ i = .int .i64 k ∧ Hid (Below w.heap.size w wr) ∧ w.heap.size < wr.heap.size ∧ Hid (∀ j,j < k → badAt l j = 0) ∧ wr.cell? ⟨w.heap.size,0,none⟩ = some (.int .i64 0) ∧ wr.cell? ⟨w.heap.size,1,none⟩ = some (.int .i64 0) ∧ wr.frozen? ⟨w.heap.size,0,none⟩ = false ∧ wr.frozen? ⟨w.heap.size,1,none⟩ = false) (fun i _ => l.length - (intOf i).toNat)
  case atStart => exact ⟨0,Nat.zero_le _,rfl,HB,hz0,fun j hj => by omega,c0,c1,f0,f1⟩
  case round =>
   obtain ⟨k,hk,rfl,HB,hsz,HZ,c0,c1,f0,f1⟩ := hrel
   by_cases hlt : k < l.length
   ·obtain ⟨x,hx⟩ : ∃ x,l[k]? = some x := ⟨_,ζe hlt⟩
    have hn2 : x.args.length ≤ 1073741824 := N2.out x (ζm hx)
    obtain ⟨b1,o1,av,rfl,-,hb1,hc1,hc2,hav⟩ := RdFacts.at ((H.out.more ζF (S' := fun _ => True) (fun _ _ _ => trivial)).agree ζF (Below.agree HB.out)) hx
    obtain ⟨aa,ac,rfl,-,-,-⟩ := id hav.form
    have HA := ζ hav
    have HX := ζ hx
    have hW := wrongFact x _ (wr.alloc (.cells #[.string x.name,.slice aa x.args.length ac] 27)) (hav.agree ζS ((Agree.refl _ _).alloc _)) (by omega)
    clear hav hx
    by_cases hz : wrongF x = 0
    ·rw [hz] at hW
     have HW := ζ hW
     have HZX := ζ hz
     clear hW hz
     rcases k with _ | j
     ·have z0 : ((0 : Nat) : Int) = 0 := rfl
      have HBZ := ζ (badAt_zero HX.out HZX.out)
      have HZ1 := ζ (show ∀ j,j < 1 → badAt l j = 0 from fun j hj => (show j = 0 by omega) ▸ HBZ.out)
      simp only [Nat.zero_mul,Nat.add_zero] at hc1 hc2
      rw [z0]
      go_wp2_with (go_at_call 16;refine (HW.out).mono ?_;rintro e w1 ⟨rfl,hf1⟩;have d0 := (past_cell hf1.below hsz 0).trans c0;have d1 := (past_cell hf1.below hsz 1).trans c1;have g0 := (past_frozen hf1.below hsz 0).trans f0;have g1 := (past_frozen hf1.below hsz 1).trans f1;have HB1 := ζ ((HB.out.alloc (Nat.le_of_lt hsz) _).trans (hf1.below.mono (by simp;omega)));have hs1 : w.heap.size < w1.heap.size := (by have := hf1.below.size;simp at this;omega);clear hf1)
      go_quiet (fail)
      go_wp2
      go_roundw
      case rel => exact ⟨1,by omega,by go_num,ζ ⟨HB1.out.os,HB1.out.tape,HB1.out.output,HB1.out.size,HB1.out.block⟩,hs1,HZ1,d0,d1,g0,g1⟩
      case measure => simp [intOf];omega
     ·obtain ⟨y,hy⟩ : ∃ y,l[j]? = some y := ⟨_,ζe (by omega)⟩
      have hn2y : y.args.length ≤ 1073741824 := N2.out y (ζm hy)
      obtain ⟨b2,o2,yv,e2,-,-,hd1,hd2,hyv⟩ := RdFacts.at ((H.out.more ζF (S' := fun _ => True) (fun _ _ _ => trivial)).agree ζF (Below.agree HB.out)) hy
      injection e2 with e2;injection e2 with e2 e2' _
      subst e2 e2'
      obtain ⟨ya,yc,rfl,-,-,-⟩ := id hyv.form
      have HY := ζ hyv
      have HBS := ζ (badAt_succ HX.out hy HZX.out)
      have i1 : (0 : Int) ≤ (j : Int) := by omega
      have i2 : (j : Int) + 1 < (l.length : Int) := by omega
      have i3 : (j : Int) < (l.length : Int) := by omega
      have i4 : (0 : Int) ≤ (j : Int) + 1 := by omega
      have i5 : IntKind.i64.wrap (j : Int) = j := by rw [IntKind.wrap_i64];omega
      have i6 : (0 : Int) < (j : Int) + 1 := by omega
      have e1 : ((j + 1 : Nat) : Int) = (j : Int) + 1 := by omega
      have K := ζ (fun W (ha : Agree (fun _ => True) wr W) => compareFact y x (.slice ya y.args.length yc) (.slice aa x.args.length ac) W (HY.out.agree ζS ha) (HA.out.agree ζS ha) hn2y)
      clear hyv hy
      obtain ⟨q,hq⟩ : ∃ q,cmpFact y x = q := ⟨_,rfl⟩
      rw [hq] at K HBS
      clear hq
      rw [e1]
      by_cases hlt2 : q < 0
      ·have HL := ζ hlt2
       have hq0 : (0 ≤ q) = False := by simp;omega
       clear hlt2
       go_wp2_with (go_at_call 16;refine (HW.out).mono ?_;rintro e w1 ⟨rfl,hf1⟩;have d0 := (past_cell hf1.below hsz 0).trans c0;have d1 := (past_cell hf1.below hsz 1).trans c1;have g0 := (past_frozen hf1.below hsz 0).trans f0;have g1 := (past_frozen hf1.below hsz 1).trans f1;have HB1 := ζ ((HB.out.alloc (Nat.le_of_lt hsz) _).trans (hf1.below.mono (by simp;omega)));have hs1 : w.heap.size < w1.heap.size := (by have := hf1.below.size;simp at this;omega);have hx0 : w1.cell? ⟨wr.heap.size,0,none⟩ = some (.string x.name) := (ζl hf1.below (by simp) 0).trans (by simp);have hx1 : w1.cell? ⟨wr.heap.size,1,none⟩ = some (.slice aa x.args.length ac) := (ζl hf1.below (by simp) 1).trans (by simp);have hsx : wr.heap.size < w1.heap.size := (by have := hf1.below.size;simp at this;omega);have hb2 : b1 < w1.heap.size := (by omega);have hy0 := (past_cell hf1.below hb1 (o1 + j * 2)).trans hd1;have hy1 := (past_cell hf1.below hb1 (o1 + j * 2 + 1)).trans hd2;have HAG := ζ (show Agree (fun _ => True) wr w1 from ((Agree.refl _ _).alloc _).trans (Below.agree hf1.below));clear hf1)
       go_region_held3 (fun w' => w'.cell? ⟨b1,o1 + j * 2,none⟩ = some (.string y.name) ∧ w'.cell? ⟨b1,o1 + j * 2 + 1,none⟩ = some (.slice ya y.args.length yc) ∧
        w'.cell? ⟨wr.heap.size,0,none⟩ = some (.string x.name) ∧ w'.cell? ⟨wr.heap.size,1,none⟩ = some (.slice aa x.args.length ac))
        (first | (refine ⟨?_,?_,?_,?_⟩ <;> (first | (rw [hk2 _ hb2];assumption) | (rw [hk2 _ hsx];assumption))) | go_keep)
        (first
         | (go_at_call 39;refine (K.out _ HAG.out.drew).mono ?_;rintro e w2 ⟨rfl,hf2⟩;have hk2 : ∀ c,c < w1.heap.size → ∀ off,w2.cell? ⟨c,off,none⟩ = w1.cell? ⟨c,off,none⟩ := fun c hc off => ζl (w := w1.drew) hf2.below hc off))
       have HB2 := ζ (HB1.out.drew.trans (hf2.below.mono HB1.out.size))
       have m0 := (hk2 _ hs1 0).trans d0
       have m1 := (hk2 _ hs1 1).trans d1
       have m2 := (hf2.below.frozen (p := ⟨w.heap.size,0,none⟩) hs1).trans g0
       have m3 := (hf2.below.frozen (p := ⟨w.heap.size,1,none⟩) hs1).trans g1
       have hs2 : w.heap.size < w2.heap.size := Nat.lt_of_lt_of_le hs1 hf2.below.size
       clear hf2 hk2 hx0 hx1 hy0 hy1
       go_wp2
       go_roundw
       case rel =>
        refine ⟨j + 1 + 1,by omega,by go_num,HB2.out,hs2,fun i hi => ?_,m0,m1,m2,m3⟩
        by_cases e : i = j + 1
        ·subst e;rw [HBS.out,if_pos HL.out]
        ·exact HZ.out i (by omega)
       case measure => simp [intOf];omega
      ·have HL := ζ hlt2
       have hq0 : (0 ≤ q) = True := by simp;omega
       have hs := setF_at hmany hlt HZ.out (by rw [HBS.out,if_neg HL.out];decide)
       rw [HBS.out,if_neg HL.out] at hs
       have HS := ζ hs
       clear hlt2 hs
       go_wp2_with (go_at_call 16;refine (HW.out).mono ?_;rintro e w1 ⟨rfl,hf1⟩;have d0 := (past_cell hf1.below hsz 0).trans c0;have d1 := (past_cell hf1.below hsz 1).trans c1;have g0 := (past_frozen hf1.below hsz 0).trans f0;have g1 := (past_frozen hf1.below hsz 1).trans f1;have HB1 := ζ ((HB.out.alloc (Nat.le_of_lt hsz) _).trans (hf1.below.mono (by simp;omega)));have hs1 : w.heap.size < w1.heap.size := (by have := hf1.below.size;simp at this;omega);have hx0 : w1.cell? ⟨wr.heap.size,0,none⟩ = some (.string x.name) := (ζl hf1.below (by simp) 0).trans (by simp);have hx1 : w1.cell? ⟨wr.heap.size,1,none⟩ = some (.slice aa x.args.length ac) := (ζl hf1.below (by simp) 1).trans (by simp);have hsx : wr.heap.size < w1.heap.size := (by have := hf1.below.size;simp at this;omega);have hb2 : b1 < w1.heap.size := (by omega);have hy0 := (past_cell hf1.below hb1 (o1 + j * 2)).trans hd1;have hy1 := (past_cell hf1.below hb1 (o1 + j * 2 + 1)).trans hd2;have HAG := ζ (show Agree (fun _ => True) wr w1 from ((Agree.refl _ _).alloc _).trans (Below.agree hf1.below));clear hf1)
       go_region_held3 (fun w' => w'.cell? ⟨b1,o1 + j * 2,none⟩ = some (.string y.name) ∧ w'.cell? ⟨b1,o1 + j * 2 + 1,none⟩ = some (.slice ya y.args.length yc) ∧
        w'.cell? ⟨wr.heap.size,0,none⟩ = some (.string x.name) ∧ w'.cell? ⟨wr.heap.size,1,none⟩ = some (.slice aa x.args.length ac))
        (first | (refine ⟨?_,?_,?_,?_⟩ <;> (first | (rw [hk2 _ hb2];assumption) | (rw [hk2 _ hsx];assumption))) | go_keep)
        (first
         | (go_at_call 39;refine (K.out _ HAG.out.drew).mono ?_;rintro e w2 ⟨rfl,hf2⟩;have hk2 : ∀ c,c < w1.heap.size → ∀ off,w2.cell? ⟨c,off,none⟩ = w1.cell? ⟨c,off,none⟩ := fun c hc off => ζl (w := w1.drew) hf2.below hc off))
       have HB2 := ζ (HB1.out.drew.trans (hf2.below.mono HB1.out.size))
       have m0 := (hk2 _ hs1 0).trans d0
       have m1 := (hk2 _ hs1 1).trans d1
       have m2 := (hf2.below.frozen (p := ⟨w.heap.size,0,none⟩) hs1).trans g0
       have m3 := (hf2.below.frozen (p := ⟨w.heap.size,1,none⟩) hs1).trans g1
       clear hf2 hk2 hx0 hx1 hy0 hy1
       go_wp2
       refine bodyPost_ret (v := .agg #[.int .i64 2,.int .i64 ((j + 1 : Nat) : Int)]) (by simp [results,Tryz.results53,go_sem,m0,m1]) rfl ⟨by rw [HS.out],?_⟩
       exact (HB2.out.setCell (ζn _) _).setCell (ζn _) _
    ·have hne : (wrongF x != 0) = true := by simpa using hz
     have hs := setF_at hmany hlt HZ.out (by rw [badAt_wrong HX.out hz];exact hz)
     rw [badAt_wrong HX.out hz] at hs
     have HS := ζ hs
     have HW := ζ hW
     clear hs hW
     generalize wrongF x = q at *
     go_wp2_with (go_at_call 16;refine (HW.out).mono ?_;rintro e w1 ⟨rfl,hf1⟩;have d0 := (past_cell hf1.below hsz 0).trans c0;have d1 := (past_cell hf1.below hsz 1).trans c1;have g0 := (past_frozen hf1.below hsz 0).trans f0;have g1 := (past_frozen hf1.below hsz 1).trans f1;have HB1 := ζ ((HB.out.alloc (Nat.le_of_lt hsz) _).trans (hf1.below.mono (by simp;omega)));clear hf1)
     refine bodyPost_ret (v := .agg #[.int .i64 q,.int .i64 k]) (by simp [results,Tryz.results53,go_sem,d0,d1]) rfl ⟨by rw [HS.out],?_⟩
     exact (HB1.out.setCell (ζn _) _).setCell (ζn _) _
   ·have HS := ζ (setF_ok hmany (fun j hj => HZ.out j (by omega)))
    go_wp2
    refine bodyPost_ret (v := .agg #[.int .i64 0,.int .i64 0]) (by simp [results,Tryz.results53,go_sem,c0,c1]) rfl ⟨by rw [HS.out],?_⟩
    exact (HB.out.setCell (ζn _) _).setCell (ζn _) _
end
section
def pickP (facts other : List PFact) (at' : Int) (i : Nat) : List PFact := if (i : Int) = at' then other else facts
theorem pickP_all (facts other : List PFact) : pickP facts other (-1) = fun _ => facts := by
 funext i;unfold pickP;rw [if_neg (by omega)]
def withP (body : List PAtom) (facts : List PFact) (at' : Int) (other : List PFact) : List Binds × Int :=
 if bodyBad body ≠ 0 then ([],bodyBad body)
 else if (setF facts).1 ≠ 0 then ([],(setF facts).1)
 else if (setF other).1 ≠ 0 then ([],(setF other).1)
 else match goP (pickP facts other at') 0 [[]] body with
  | none => ([],4)
  | some ls => (tidyP (notP (pickP facts other at') 0 ls body),0)
def allP (body : List PAtom) (facts : List PFact) : List Binds × Int := withP body facts (-1) []
theorem setF_zero {l : List PFact} (h : (setF l).1 = 0) : l.length ≤ 200 ∧ ∀ i,i < l.length → badAt l i = 0 := by
 by_cases h1 : 200 < l.length
 ·rw [setF_many h1] at h;exact absurd h (by decide)
 ·refine ⟨by omega,fun i hi => Classical.byContradiction fun hb => ?_⟩
  unfold setF at h
  rw [if_neg h1] at h
  cases hf : (List.range l.length).find? (fun i => badAt l i != 0) with
  | none =>
   rw [List.find?_range_eq_none] at hf
   have := hf i (by simpa using hi)
   simp at this
   exact hb this
  | some j =>
   rw [hf] at h
   rw [List.find?_range_eq_some] at hf
   have := hf.1
   simp at this
   exact this h
theorem setF_set {l : List PFact} (h : (setF l).1 = 0) : l.length ≤ 200 ∧ Rising l ∧ ∀ f ∈ l,wrongF f = 0 := by
 obtain ⟨h1,h2⟩ := setF_zero h
 have hw : ∀ i f,l[i]? = some f → wrongF f = 0 := fun i f hf => Classical.byContradiction fun hb => by
  have := h2 i (List.getElem?_eq_some_iff.1 hf).1
  rw [badAt_wrong hf hb] at this
  exact hb this
 have hs : ∀ i f g,l[i]? = some f → l[i + 1]? = some g → cmpFact f g < 0 := fun i f g hf hg => by
  have := h2 (i + 1) (List.getElem?_eq_some_iff.1 hg).1
  rw [badAt_succ hg hf (hw _ _ hg)] at this
  split at this
  ·assumption
  ·exact absurd this (by decide)
 refine ⟨h1,?_,fun f hf => ?_⟩
 ·have key : ∀ d i f g,l[i]? = some f → l[i + d + 1]? = some g → cmpFact f g < 0 := fun d => by
   induction d with
   | zero => exact fun i f g hf hg => hs i f g hf hg
   | succ d ih =>
    intro i f g hf hg
    obtain ⟨m,hm⟩ : ∃ m,l[i + d + 1]? = some m := ⟨_,ζe (by have := (List.getElem?_eq_some_iff.1 hg).1;omega)⟩
    exact cmpFact3.trans _ _ _ (ih i f m hf hm) (hs _ m g hm hg)
  refine List.pairwise_iff_getElem.2 fun i j hi hj hij => ?_
  simp only [ltF,decide_eq_true_eq]
  refine key (j - i - 1) i _ _ (ζe hi) ?_
  rw [show i + (j - i - 1) + 1 = j by omega]
  exact ζe hj
 ·obtain ⟨i,hi⟩ := List.mem_iff_getElem?.1 hf
  exact hw i f hi
theorem setF_nil : setF [] = (0,0) := rfl
theorem withP_cases (body : List PAtom) (facts : List PFact) (at' : Int) (other : List PFact) :
 ((withP body facts at' other).2 ≠ 0 ∧ (withP body facts at' other).1 = []) ∨
 ((withP body facts at' other).2 = 0 ∧ bodyBad body = 0 ∧ (setF facts).1 = 0 ∧ (setF other).1 = 0 ∧ RisingC cmpBinds (withP body facts at' other).1 ∧ ∀ m,m ∈ (withP body facts at' other).1 ↔ Told (pickP facts other at') body m) := by
 unfold withP
 by_cases h1 : bodyBad body = 0
 ·rw [if_neg (by simpa using h1)]
  by_cases h2 : (setF facts).1 = 0
  ·rw [if_neg (by simpa using h2)]
   by_cases h3 : (setF other).1 = 0
   ·rw [if_neg (by simpa using h3)]
    cases hg : goP (pickP facts other at') 0 [[]] body with
    | none => exact .inl ⟨(by decide : (4 : Int) ≠ 0),rfl⟩
    | some ls => exact .inr ⟨rfl,h1,h2,h3,tidyP_rising _,told_iff h1 hg⟩
   ·rw [if_pos h3];exact .inl ⟨h3,rfl⟩
  ·rw [if_pos h2];exact .inl ⟨h2,rfl⟩
 ·rw [if_pos h1];exact .inl ⟨h1,rfl⟩
theorem allP_cases (body : List PAtom) (facts : List PFact) :
 ((allP body facts).2 ≠ 0 ∧ (allP body facts).1 = []) ∨
 ((allP body facts).2 = 0 ∧ bodyBad body = 0 ∧ (setF facts).1 = 0 ∧ RisingC cmpBinds (allP body facts).1 ∧ ∀ m,m ∈ (allP body facts).1 ↔ Told (fun _ => facts) body m) := by
 rcases withP_cases body facts (-1) [] with h | ⟨h1,h2,h3,-,h4,h5⟩
 ·exact .inl h
 ·exact .inr ⟨h1,h2,h3,h4,fun m => by have := h5 m;rwa [pickP_all] at this⟩
theorem all_so {body : List PAtom} {fs : List PFact} {m : Binds} (hm : m ∈ (allP body fs).1) {a : PAtom} (ha : a ∈ body) : ∃ f,fillP a m = some f ∧ memF f fs = !a.neg := by
 rcases allP_cases body fs with ⟨-,h1⟩ | ⟨-,-,-,-,h2⟩
 ·rw [h1] at hm;simp at hm
 ·obtain ⟨j,hj⟩ := List.mem_iff_getElem?.1 ha
  exact ((h2 m).1 hm).2.2.2 j a hj
end
section
instance decMemS (s : Str) (l : List Str) : Decidable (s ∈ l) := decidable_of_iff _ (memS_iff s l)
def headsOf (p : List PRule) : List Str := p.map fun r => r.head.name
def dl (p : List PRule) (a : PAtom) : Nat := if a.neg = true ∧ a.name ∈ headsOf p then 1 else 0
structure Sol (p : List PRule) (M : Str → Nat) : Prop where
 out : ∀ s,s ∉ headsOf p → M s = 0
 up : ∀ r ∈ p,∀ a ∈ r.body,M a.name + dl p a ≤ M r.head.name
structure Least (p : List PRule) (L : Str → Nat) : Prop where
 sol : Sol p L
 least : ∀ M,Sol p M → ∀ s,L s ≤ M s
theorem Least.unique {p : List PRule} {L M : Str → Nat} (h : Least p L) (k : Least p M) : L = M :=
 funext fun s => Nat.le_antisymm (h.least M k.sol s) (k.least L h.sol s)
theorem exists_min (P : Nat → Prop) : ∀ n,P n → ∃ m,P m ∧ ∀ k,P k → m ≤ k := by
 intro n
 induction n using Nat.strongRecOn with
 | ind n ih =>
  intro h
  by_cases hk : ∃ k,k < n ∧ P k
  ·obtain ⟨k,hlt,hp⟩ := hk
   exact ih k hlt hp
  ·exact ⟨n,h,fun k hp => by
    rcases Nat.lt_or_ge k n with hlt | hge
    ·exact absurd ⟨k,hlt,hp⟩ hk
    ·exact hge⟩
theorem exists_least {p : List PRule} {M : Str → Nat} (h : Sol p M) : ∃ L,Least p L := by
 have hm : ∀ s,∃ m,(∃ M,Sol p M ∧ M s = m) ∧ ∀ k,(∃ M,Sol p M ∧ M s = k) → m ≤ k := fun s => exists_min (fun m => ∃ M,Sol p M ∧ M s = m) (M s) ⟨M,h,rfl⟩
 have hl : ∀ s,∃ M,Sol p M ∧ M s = Classical.choose (hm s) := fun s => (Classical.choose_spec (hm s)).1
 have hle : ∀ s M,Sol p M → Classical.choose (hm s) ≤ M s := fun s M hM => (Classical.choose_spec (hm s)).2 _ ⟨M,hM,rfl⟩
 refine ⟨fun s => Classical.choose (hm s),⟨fun s hs => ?_,fun r hr a ha => ?_⟩,fun M hM s => hle s M hM⟩
 ·have := hle s M h
  rw [h.out s hs] at this
  exact Nat.le_zero.1 this
 ·obtain ⟨N,hN,e⟩ := hl r.head.name
  have h1 := hle a.name N hN
  have h2 := hN.up r hr a ha
  show Classical.choose (hm a.name) + dl p a ≤ Classical.choose (hm r.head.name)
  rw [← e]
  omega
theorem Least.no_gap {p : List PRule} {L : Str → Nat} (h : Least p L) {s : Str} {n : Nat} (hn : n < L s) : ∃ x ∈ headsOf p,L x = n := by
 apply Classical.byContradiction
 intro hno
 have hno' : ∀ x ∈ headsOf p,L x ≠ n := fun x hx e => hno ⟨x,hx,e⟩
 have hsol : Sol p (fun x => if n < L x then L x - 1 else L x) := by
  refine ⟨fun x hx => ?_,fun r hr a ha => ?_⟩
  ·have := h.sol.out x hx
   simp [this]
  ·have h1 := h.sol.up r hr a ha
   have hr' : r.head.name ∈ headsOf p := List.mem_map.2 ⟨r,hr,rfl⟩
   have h2 := hno' _ hr'
   by_cases ha' : a.name ∈ headsOf p
   ·have h3 := hno' _ ha'
    have hd : dl p a ≤ 1 := by unfold dl;split <;> omega
    show (if n < L a.name then L a.name - 1 else L a.name) + dl p a ≤ (if n < L r.head.name then L r.head.name - 1 else L r.head.name)
    split <;> split <;> omega
   ·have h3 := h.sol.out _ ha'
    have hd : dl p a = 0 := by unfold dl;rw [if_neg (fun hh => ha' hh.2)]
    show (if n < L a.name then L a.name - 1 else L a.name) + dl p a ≤ (if n < L r.head.name then L r.head.name - 1 else L r.head.name)
    rw [h3,hd]
    simp
 have := h.least _ hsol s
 simp only [hn,if_true] at this
 omega
theorem nodup_le {α : Type} [DecidableEq α] : ∀ {l m : List α},l.Nodup → (∀ x ∈ l,x ∈ m) → l.length ≤ m.length
 | [],_,_,_ => Nat.zero_le _
 | x :: l,m,hn,hs => by
  have hx : x ∈ m := hs x (by simp)
  have hn' := List.nodup_cons.1 hn
  have h1 : ∀ y ∈ l,y ∈ m.erase x := fun y hy => (List.mem_erase_of_ne (fun e => hn'.1 (by rw [← e];exact hy))).2 (hs y (by simp [hy]))
  have h2 := nodup_le hn'.2 h1
  rw [List.length_erase_of_mem hx] at h2
  have h3 := List.length_pos_of_mem hx
  simp only [List.length_cons]
  omega
theorem Least.bound {p : List PRule} {L : Str → Nat} (h : Least p L) {D : List Str} (hD : ∀ x ∈ headsOf p,x ∈ D) {s : Str} (hs : s ∈ headsOf p) : L s < D.length := by
 have h1 : ∀ n ∈ List.range (L s + 1),n ∈ D.map L := by
  intro n hn
  have hn' : n < L s + 1 := List.mem_range.1 hn
  by_cases e : n = L s
  ·exact List.mem_map.2 ⟨s,hD s hs,e.symm⟩
  ·obtain ⟨x,hx,e⟩ := h.no_gap (s := s) (n := n) (by omega)
   exact List.mem_map.2 ⟨x,hD x hx,e⟩
 have h2 := nodup_le List.nodup_range h1
 simp only [List.length_range,List.length_map] at h2
 omega
end
section
def headsP (r : PRule) (l : List PFact) : List PFact × Int :=
 if (allP r.body l).2 ≠ 0 then ([],(allP r.body l).2) else (ofF ((allP r.body l).1.filterMap fun b => fillP r.head b),0)
def onceP (n : Int) (l : List PFact) : List (PRule × Int) → List PFact → List PFact × Int
 | [],out => (out,0)
 | (r,s) :: p,out => if s ≠ n then onceP n l p out else if (headsP r l).2 ≠ 0 then ([],(headsP r l).2)
  else if 200 < (joinF out (headsP r l).1).length then ([],5) else onceP n l p (joinF out (headsP r l).1)
def fixP (p : List (PRule × Int)) (n : Int) : Nat → List PFact → List PFact × Int
 | 0,out => (out,0)
 | k + 1,out => if (onceP n out p out).2 ≠ 0 then ([],(onceP n out p out).2) else if (onceP n out p out).1.length = out.length then (out,0) else fixP p n k (onceP n out p out).1
def runP (p : List (PRule × Int)) : Nat → Int → List PFact → List PFact × Int
 | 0,_,out => (out,0)
 | k + 1,i,out => if (fixP p i 201 out).2 ≠ 0 then ([],(fixP p i 201 out).2) else runP p k (i + 1) (fixP p i 201 out).1
def atomsOf (p : List PRule) : List PAtom := p.flatMap fun r => r.head :: r.body
def arityF (m : Str → Option Int) (a : PAtom) : Str → Option Int := fun t => if t = a.name then some (a.terms.length : Int) else m t
def arityP (p : List PRule) : Str → Option Int := (atomsOf p).foldl arityF fun _ => none
def misfit (p : List PRule) (f : PFact) : Bool := match arityP p f.name with
 | none => false
 | some k => k != (f.args.length : Int)
def factsBad (p : List PRule) (l : List PFact) : Int × Int :=
 if (setF l).1 ≠ 0 then setF l else match l.findIdx? (misfit p) with
  | some i => (8,(i : Int))
  | none => (0,0)
def countP (st : List Int) : Int := match st with
 | [] => 0
 | x :: r => r.foldl max x + 1
def naiveP (st : List Int) (q : Int) (p : List PRule) (l : List PFact) : List PFact × Int :=
 if q ≠ 0 then ([],q) else if (factsBad p l).1 ≠ 0 then ([],(factsBad p l).1) else runP (p.zip st) (countP st).toNat 0 l
theorem heads_zero {r : PRule} {l : List PFact} (h : (headsP r l).2 = 0) : (allP r.body l).2 = 0 ∧ (headsP r l).1 = ofF ((allP r.body l).1.filterMap fun b => fillP r.head b) := by
 unfold headsP at *
 by_cases h1 : (allP r.body l).2 = 0
 ·rw [if_neg (by simpa using h1)];exact ⟨h1,rfl⟩
 ·rw [if_pos h1] at h;exact absurd h h1
theorem mem_heads {r : PRule} {l : List PFact} (h : (headsP r l).2 = 0) (f : PFact) : f ∈ (headsP r l).1 ↔ ∃ m,Told (fun _ => l) r.body m ∧ fillP r.head m = some f := by
 obtain ⟨h1,h2⟩ := heads_zero h
 rw [h2,mem_ofF,List.mem_filterMap]
 rcases allP_cases r.body l with ⟨h3,-⟩ | ⟨-,-,-,-,h4⟩
 ·exact absurd h1 h3
 ·exact exists_congr fun m => and_congr_left fun _ => h4 m
theorem heads_set {r : PRule} {l : List PFact} (h : (headsP r l).2 = 0) : (setF l).1 = 0 ∧ bodyBad r.body = 0 := by
 rcases allP_cases r.body l with ⟨h3,-⟩ | ⟨-,h4,h5,-⟩
 ·exact absurd (heads_zero h).1 h3
 ·exact ⟨h5,h4⟩
theorem told_agree {l l' : List PFact} {b : List PAtom} (h : ∀ a ∈ b,∀ f : PFact,f.name = a.name → (f ∈ l ↔ f ∈ l')) {m : Binds} (ht : Told (fun _ => l) b m) : Told (fun _ => l') b m := by
 obtain ⟨h1,h2,h3,h4⟩ := ht
 refine ⟨h1,h2,h3,fun j a ha => ?_⟩
 obtain ⟨f,k1,k2⟩ := h4 j a ha
 refine ⟨f,k1,?_⟩
 rw [← k2,Bool.eq_iff_iff,memF_iff,memF_iff]
 exact (h a (ζm ha) f (fillP_name k1).1.symm).symm
theorem mem_joinF (a b : List PFact) (x : PFact) : x ∈ joinF a b ↔ x ∈ a ∨ x ∈ b := by unfold joinF;rw [mem_ofF,List.mem_append]
theorem nodup_rising {l : List PFact} (h : Rising l) : l.Nodup := h.imp fun {a b} hab e => by subst e;rw [ltF_irrefl] at hab;cases hab
structure Round (n : Int) (l : List PFact) (p : List (PRule × Int)) (out out' : List PFact) : Prop where
 ok : ∀ r s,(r,s) ∈ p → s = n → (headsP r l).2 = 0
 mem : ∀ x,x ∈ out' ↔ x ∈ out ∨ ∃ r s,(r,s) ∈ p ∧ s = n ∧ x ∈ (headsP r l).1
 rise : Rising out'
 len : out'.length ≤ 200
theorem once_round {n : Int} {l : List PFact} : ∀ {p : List (PRule × Int)} {out : List PFact},(onceP n l p out).2 = 0 → Rising out → out.length ≤ 200 → Round n l p out (onceP n l p out).1
 | [],out,_,hr,hl => ⟨fun _ _ h => by simp at h,fun x => by simp [onceP],hr,hl⟩
 | (r,s) :: p,out,h,hr,hl => by
  rw [onceP] at h ⊢
  by_cases hs : s = n
  case neg =>
   rw [if_pos hs] at h ⊢
   have ih := once_round h hr hl
   refine ⟨fun r' s' hm e => ?_,fun x => ?_,ih.rise,ih.len⟩
   ·rcases List.mem_cons.1 hm with hm | hm
    ·injection hm with _ h2;subst h2;exact absurd e hs
    ·exact ih.ok r' s' hm e
   ·rw [ih.mem]
    constructor
    ·rintro (h1 | ⟨r',s',h1,h2,h3⟩)
     ·exact .inl h1
     ·exact .inr ⟨r',s',List.mem_cons_of_mem _ h1,h2,h3⟩
    ·rintro (h1 | ⟨r',s',h1,h2,h3⟩)
     ·exact .inl h1
     ·rcases List.mem_cons.1 h1 with h1 | h1
      ·injection h1 with _ h4;subst h4;exact absurd h2 hs
      ·exact .inr ⟨r',s',h1,h2,h3⟩
  rw [if_neg (by simpa using hs)] at h ⊢
  by_cases he : (headsP r l).2 = 0
  case neg => rw [if_pos he] at h;exact absurd h he
  rw [if_neg (by simpa using he)] at h ⊢
  by_cases hm : 200 < (joinF out (headsP r l).1).length
  ·rw [if_pos hm] at h;exact absurd h (by decide)
  rw [if_neg hm] at h ⊢
  have ih := once_round h (ofF_rising _) (by omega)
  refine ⟨fun r' s' hm' e => ?_,fun x => ?_,ih.rise,ih.len⟩
  ·rcases List.mem_cons.1 hm' with h1 | h1
   ·injection h1 with h2 _;subst h2;exact he
   ·exact ih.ok r' s' h1 e
  ·rw [ih.mem,mem_joinF]
   constructor
   ·rintro ((h1 | h1) | ⟨r',s',h1,h2,h3⟩)
    ·exact .inl h1
    ·exact .inr ⟨r,s,by simp,hs,h1⟩
    ·exact .inr ⟨r',s',List.mem_cons_of_mem _ h1,h2,h3⟩
   ·rintro (h1 | ⟨r',s',h1,h2,h3⟩)
    ·exact .inl (.inl h1)
    ·rcases List.mem_cons.1 h1 with h1 | h1
     ·injection h1 with h4 _;subst h4;exact .inl (.inr h3)
     ·exact .inr ⟨r',s',h1,h2,h3⟩
theorem rising_sub_len {a b : List PFact} (ha : Rising a) (hb : Rising b) (h : ∀ x ∈ a,x ∈ b) (hl : b.length = a.length) : a = b := by
 refine rising_ext ha hb fun x => ⟨h x,fun hx => Classical.byContradiction fun hn => ?_⟩
 have h1 : (x :: a).Nodup := List.nodup_cons.2 ⟨hn,nodup_rising ha⟩
 have h2 := nodup_le h1 (m := b) fun y hy => by
  rcases List.mem_cons.1 hy with rfl | hy
  ·exact hx
  ·exact h y hy
 simp only [List.length_cons] at h2
 omega
theorem rising_sub_le {a b : List PFact} (ha : Rising a) (h : ∀ x ∈ a,x ∈ b) : a.length ≤ b.length := nodup_le (nodup_rising ha) h
structure Fixed (p : List (PRule × Int)) (n : Int) (out M : List PFact) : Prop where
 ok : ∀ r s,(r,s) ∈ p → s = n → (headsP r M).2 = 0 ∧ ∀ x ∈ (headsP r M).1,x ∈ M
 sub : ∀ x ∈ out,x ∈ M
 made : ∀ x ∈ M,x ∈ out ∨ ∃ O r s,(∀ y ∈ out,y ∈ O) ∧ (∀ y ∈ O,y ∈ M) ∧ (r,s) ∈ p ∧ s = n ∧ (headsP r O).2 = 0 ∧ x ∈ (headsP r O).1
 rise : Rising M
 len : M.length ≤ 200
theorem fix_fixed {p : List (PRule × Int)} {n : Int} : ∀ {k : Nat} {out : List PFact},200 < k + out.length → (fixP p n k out).2 = 0 → Rising out → out.length ≤ 200 → Fixed p n out (fixP p n k out).1
 | 0,out,hk,_,_,hl => by omega
 | k + 1,out,hk,h,hr,hl => by
  rw [fixP] at h ⊢
  by_cases he : (onceP n out p out).2 = 0
  case neg => rw [if_pos he] at h;exact absurd h he
  rw [if_neg (by simpa using he)] at h ⊢
  have hR := once_round he hr hl
  by_cases hle : (onceP n out p out).1.length = out.length
  ·rw [if_pos hle]
   have heq : out = (onceP n out p out).1 := rising_sub_len hr hR.rise (fun x hx => (hR.mem x).2 (.inl hx)) hle
   refine ⟨fun r s hm e => ⟨hR.ok r s hm e,fun x hx => ?_⟩,fun x hx => hx,fun x hx => .inl hx,hr,hl⟩
   have := (hR.mem x).2 (.inr ⟨r,s,hm,e,hx⟩)
   rwa [← heq] at this
  ·rw [if_neg hle] at h ⊢
   have hge : out.length ≤ (onceP n out p out).1.length := rising_sub_le hr fun x hx => (hR.mem x).2 (.inl hx)
   have ih := fix_fixed (k := k) (by omega) h hR.rise hR.len
   refine ⟨ih.ok,fun x hx => ih.sub x ((hR.mem x).2 (.inl hx)),fun x hx => ?_,ih.rise,ih.len⟩
   rcases ih.made x hx with h1 | ⟨O,r,s,h1,h2,h3⟩
   ·rcases (hR.mem x).1 h1 with h1 | ⟨r,s,h1,h2,h3⟩
    ·exact .inl h1
    ·exact .inr ⟨out,r,s,fun y hy => hy,fun y hy => ih.sub y ((hR.mem y).2 (.inl hy)),h1,h2,hR.ok r s h1 h2,h3⟩
   ·exact .inr ⟨O,r,s,fun y hy => h1 y ((hR.mem y).2 (.inl hy)),h2,h3⟩
theorem run_step {p : List (PRule × Int)} {k : Nat} {i : Int} {out : List PFact} (h : (runP p (k + 1) i out).2 = 0) : (fixP p i 201 out).2 = 0 ∧ runP p (k + 1) i out = runP p k (i + 1) (fixP p i 201 out).1 := by
 rw [runP] at h ⊢
 by_cases he : (fixP p i 201 out).2 = 0
 ·rw [if_neg (by simpa using he)];exact ⟨he,rfl⟩
 ·rw [if_pos he] at h;exact absurd h he
end
section
open Go.RowKit Go.Maps
theorem lawStr : Keyed Tryz.prog 9 := string_keyed Tryz.underlying9
theorem zeroInt (w : World) : (zeroValue 3).run Tryz.prog w = .ok (.int .i64 0) w := by kernel_rfl
theorem zeroBool (w : World) : (zeroValue 4).run Tryz.prog w = .ok (.bool false) w := by kernel_rfl
def keyL (s : Str) : Lit := .string s.data.toList
theorem keyStr {s : Str} (h : s.size ≤ maxLen) : keyOf Tryz.prog 9 (.string s) = some (keyL s) := WideMaps.keyOf_string_mk Tryz.underlying9 h
theorem keyL_inj {s t : Str} (h : keyL s = keyL t) : s = t := by
 unfold keyL at h
 injection h with h
 cases s;cases t
 simpa [Array.toList_inj] using h
def MapI (w : World) (b n : Nat) (f : Str → Option Int) : Prop :=
 ∃ D : DataW Unit,w.ownsMap Tryz.prog 9 (plainElem Tryz.prog 3) b n D ∧ ∀ s,s.size ≤ maxLen → Maps.has D (keyL s) = (f s).isSome ∧ D.atKey (keyL s) (.lit (.int .i64 0)) = .lit (.int .i64 ((f s).getD 0))
section
variable {w w' : World} {b n : Nat} {f : Str → Option Int}
theorem MapI.lt (h : MapI w b n f) : b < w.heap.size := let ⟨_,h1,_⟩ := h;h1.lt
theorem MapI.kept {row : Option Nat} (h : MapI w b n f) (hg : w.grownBy w' row) (hne : some b ≠ row) : MapI w' b n f := let ⟨D,h1,h2⟩ := h;⟨D,h1.kept hg hne,h2⟩
theorem MapI.below {B : Nat} (h : MapI w b n f) (hb : Below B w w') (hB : b < B) : MapI w' b n f := by
 obtain ⟨D,⟨es,clock,h1,h2⟩,h3⟩ := h
 exact ⟨D,⟨es,clock,(hb.block b hB).trans h1,h2⟩,h3⟩
theorem MapI.alloc (h : MapI w b n f) (o : Obj) : MapI (w.alloc o) b n f := h.kept (World.grownBy_alloc w o none) (by simp)
theorem MapI.drew (h : MapI w b n f) : MapI w.drew b n f := let ⟨D,h1,h2⟩ := h;⟨D,h1.drew,h2⟩
theorem MapI.made (w : World) : MapI (w.alloc (.map #[] 0)) w.heap.size 0 (fun _ => none) := ⟨.map [],World.ownsMap_made _ _ _ _,fun _ _ => ⟨rfl,rfl⟩⟩
set_option maxRecDepth 100000 in
theorem MapI.get (h : MapI w b n f) {s : Str} (hs : s.size ≤ maxLen) : (Instr.lookup 55 (.map (some b)) (.string s) false).run Tryz.prog w = .ok (.int .i64 ((f s).getD 0)) w := by
 obtain ⟨D,h1,h2⟩ := h
 obtain ⟨c,hrun,hat,_⟩ := h1.lookup_int lawStr Tryz.underlying55 Tryz.underlying3 (zeroInt w) (keyStr hs)
 rw [(h2 s hs).2] at hat
 injection hat with hat
 injection hat with _ hat
 rw [hrun,hat]
set_option maxRecDepth 100000 in
theorem MapI.getOk (h : MapI w b n f) {s : Str} (hs : s.size ≤ maxLen) : (Instr.lookup 55 (.map (some b)) (.string s) true).run Tryz.prog w = .ok (.tuple #[.int .i64 ((f s).getD 0),.bool (f s).isSome]) w := by
 obtain ⟨D,h1,h2⟩ := h
 obtain ⟨v,ps,hrun,hv⟩ := h1.look_ok lawStr Tryz.underlying55 (zeroInt w) (zd := .lit (.int .i64 0)) (zp := []) (plainElem_int Tryz.underlying3 (by decide)) (keyStr hs)
 rw [(h2 s hs).2] at hv
 obtain ⟨c,rfl,hc,_⟩ := plainElem_int_inv Tryz.underlying3 hv
 injection hc with hc _
 injection hc with hc
 injection hc with _ hc
 rw [hrun,(h2 s hs).1,hc]
set_option maxRecDepth 100000 in
theorem MapI.put (h : MapI w b n f) (hn : n < maxLen) {s : Str} (hs : s.size ≤ maxLen) {x : Int} (hx : (Lit.int .i64 x).wf = true) :
 ∃ w',(Instr.mapUpdate 55 (.map (some b)) (.string s) (.int .i64 x)).run Tryz.prog w = .ok () w' ∧ MapI w' b (n + 1) (fun t => if t = s then some x else f t) ∧ w.grownBy w' (some b) := by
 obtain ⟨D,h1,h2⟩ := h
 have hM := h1.isMap
 obtain ⟨w',hrun,h3,h4⟩ := h1.update lawStr Tryz.underlying55 hn (keyStr hs) (plainElem_int Tryz.underlying3 hx)
 refine ⟨w',hrun,⟨_,h3,fun t ht => ?_⟩,h4⟩
 by_cases e : t = s
 ·subst e
  simp only [if_true]
  exact ⟨Maps.has_put_same hM (by trivial) _,Maps.atKey_put_same hM (by trivial) _ _⟩
 ·simp only [if_neg e]
  have hne : keyL t ≠ keyL s := fun h => e (keyL_inj h)
  rw [Maps.has_put_other hne,Maps.atKey_put_other hne]
  exact h2 t ht
end
def onceS (ks : List Str) : List Str := ks.foldl (fun acc x => if memS x acc then acc else acc ++ [x]) []
theorem any_key (s : Str) : ∀ ks : List Str,(ks.map keyL).any (fun y => y.sameKey (keyL s)) = memS s ks
 | [] => rfl
 | k :: ks => by
  rw [List.map_cons,List.any_cons,any_key s ks,memS]
  congr 1
  by_cases e : s = k
  ·subst e
   rw [decide_eq_true rfl]
   simp [keyL,Lit.sameKey]
  ·rw [decide_eq_false e]
   cases h : (keyL k).sameKey (keyL s)
   ·rfl
   ·exact absurd (keyL_inj (WideAt.sameKey_eq h)).symm e
theorem fold_addKey : ∀ (ks acc : List Str),(ks.map keyL).foldl Maps.addKey (acc.map keyL) = (ks.foldl (fun acc x => if memS x acc then acc else acc ++ [x]) acc).map keyL
 | [],acc => rfl
 | k :: ks,acc => by
  rw [List.map_cons,List.foldl_cons,List.foldl_cons]
  have : Maps.addKey (acc.map keyL) (keyL k) = (if memS k acc then acc else acc ++ [k]).map keyL := by
   unfold Maps.addKey
   rw [any_key]
   split <;> simp
  rw [this]
  exact fold_addKey ks _
theorem mem_onceS_aux (x : Str) : ∀ (ks acc : List Str),x ∈ ks.foldl (fun acc x => if memS x acc then acc else acc ++ [x]) acc ↔ x ∈ ks ∨ x ∈ acc
 | [],acc => by simp
 | k :: ks,acc => by
  rw [List.foldl_cons,mem_onceS_aux x ks]
  by_cases h : memS k acc = true
  ·rw [if_pos h]
   have := (memS_iff k acc).1 h
   simp only [List.mem_cons]
   constructor
   ·rintro (h | h)
    ·exact .inl (.inr h)
    ·exact .inr h
   ·rintro ((rfl | h) | h)
    ·exact .inr this
    ·exact .inl h
    ·exact .inr h
  ·rw [if_neg h]
   simp only [List.mem_cons,List.mem_append,List.not_mem_nil,or_false]
   constructor
   ·rintro (h | h | h)
    ·exact .inl (.inr h)
    ·exact .inr h
    ·exact .inl (.inl h)
   ·rintro ((h | h) | h)
    ·exact .inr (.inr h)
    ·exact .inl h
    ·exact .inr (.inl h)
theorem mem_onceS (x : Str) (ks : List Str) : x ∈ onceS ks ↔ x ∈ ks := by
 unfold onceS
 rw [mem_onceS_aux]
 simp
def MapB (w : World) (b : Nat) (ks : List Str) : Prop :=
 w.ownsMap (H := Unit) Tryz.prog 9 (plainElem Tryz.prog 4) b ks.length (Maps.setOf (.lit (.bool true)) (ks.map keyL))
theorem keys_ok (ks : List Str) : ∀ x ∈ ks.map keyL,WideAt.IsKeyLit x := fun x hx => by
 obtain ⟨s,_,rfl⟩ := List.mem_map.1 hx
 trivial
theorem atKey_setOf (s : Str) (z : DataW Unit) (ks : List Str) : (Maps.setOf (.lit (.bool true)) (ks.map keyL)).atKey (keyL s) z = if memS s ks then .lit (.bool true) else z := by
 cases h : memS s ks
 ·rw [Maps.atKey_of_not_has]
  ·rfl
  ·rw [Maps.has_setOf _ _ _ (keys_ok ks),any_key,h]
 ·have main : ∀ (ks : List Str),memS s ks = true → (Maps.setOf (.lit (.bool true)) (ks.map keyL)).atKey (keyL s) z = .lit (.bool true) := by
   intro ks
   rw [← List.reverse_reverse ks]
   induction ks.reverse with
   | nil => intro h;simp [memS] at h
   | cons k r ih =>
    intro h
    rw [List.reverse_cons,List.map_append,List.map_cons,List.map_nil,Maps.setOf_snoc]
    by_cases e : s = k
    ·subst e
     exact Maps.atKey_put_same (Maps.tidy_setOf _ _ (keys_ok _)).isMap (by trivial) _ _
    ·rw [Maps.atKey_put_other (fun h => e (keyL_inj h))]
     refine ih ?_
     rw [memS_iff,List.reverse_cons,List.mem_append,List.mem_singleton] at h
     rw [memS_iff]
     exact h.elim id (fun h => absurd h e)
  exact main ks h
section
variable {w w' : World} {b : Nat} {ks : List Str}
theorem MapB.lt (h : MapB w b ks) : b < w.heap.size := World.ownsMap.lt h
theorem MapB.kept {row : Option Nat} (h : MapB w b ks) (hg : w.grownBy w' row) (hne : some b ≠ row) : MapB w' b ks := World.ownsMap.kept h hg hne
theorem MapB.alloc (h : MapB w b ks) (o : Obj) : MapB (w.alloc o) b ks := h.kept (World.grownBy_alloc w o none) (by simp)
theorem MapB.made (w : World) : MapB (w.alloc (.map #[] 0)) w.heap.size [] := World.ownsMap_made _ _ _ _
set_option maxRecDepth 100000 in
theorem MapB.get (h : MapB w b ks) {s : Str} (hs : s.size ≤ maxLen) : (Instr.lookup 92 (.map (some b)) (.string s) false).run Tryz.prog w = .ok (.bool (memS s ks)) w := by
 obtain ⟨v,ps,hrun,hv⟩ := World.ownsMap.lookup h lawStr Tryz.underlying92 (zeroBool w) (zd := .lit (.bool false)) (zp := []) (plainElem_bool Tryz.underlying4 false) (keyStr hs)
 rw [atKey_setOf] at hv
 rw [hrun]
 have hb : ∃ x,v = .bool x ∧ (.lit (.bool x),[]) = (if memS s ks then (.lit (.bool true) : DataW Unit) else .lit (.bool false),ps) := by
  have hu : Tryz.prog.underlying 4 = some .bool := Tryz.underlying4
  unfold plainElem at hv
  rw [hu] at hv
  cases v <;> simp at hv
  rename_i x
  exact ⟨x,rfl,by rw [Prod.mk.injEq];exact ⟨hv.1,hv.2.symm⟩⟩
 obtain ⟨x,rfl,hx⟩ := hb
 injection hx with hx _
 cases hm : memS s ks <;> rw [hm] at hx <;> simp at hx <;> rw [hx]
theorem MapB.len (h : MapB w b ks) (ty : TypeId) : (Builtin.len_ #[92] ty #[.map (some b)]).run Tryz.prog w = .ok (.int .i64 ((onceS ks).length : Int)) w := by
 have := World.ownsMap.len h Tryz.underlying92 ty
 rw [Maps.size_setOf _ _ (keys_ok ks)] at this
 have e := fold_addKey ks []
 rw [List.map_nil] at e
 rw [e,List.length_map] at this
 exact this
set_option maxRecDepth 100000 in
theorem MapB.put (h : MapB w b ks) (hn : ks.length < maxLen) {s : Str} (hs : s.size ≤ maxLen) :
 ∃ w',(Instr.mapUpdate 92 (.map (some b)) (.string s) (.bool true)).run Tryz.prog w = .ok () w' ∧ MapB w' b (ks ++ [s]) ∧ w.grownBy w' (some b) := by
 obtain ⟨w',hrun,h3,h4⟩ := World.ownsMap.update h lawStr Tryz.underlying92 hn (keyStr hs) (plainElem_bool Tryz.underlying4 true)
 refine ⟨w',hrun,?_,h4⟩
 unfold MapB
 rw [List.map_append,List.map_cons,List.map_nil,Maps.setOf_snoc,List.length_append]
 exact h3
end
end
section
def Dh (p : List PRule) : Nat := (onceS (headsOf p)).length
def tot (p : List PRule) (M : Str → Nat) : Nat := ((onceS (headsOf p)).map M).sum
structure Sub (p : List PRule) (M : Str → Nat) : Prop where
 under : ∀ N,Sol p N → ∀ s,M s ≤ N s
 out : ∀ s,s ∉ headsOf p → M s = 0
 lt : ∀ s,M s < Dh p ∨ M s = 0
def raise (p : List PRule) (M : Str → Nat) (r : PRule) (a : PAtom) : Str → Nat := fun t => if t = r.head.name then M a.name + dl p a else M t
theorem Sub.zero (p : List PRule) : Sub p (fun _ => 0) := ⟨fun _ _ _ => Nat.zero_le _,fun _ _ => rfl,fun _ => .inr rfl⟩
theorem sum_up : ∀ (l : List Str) (M N : Str → Nat) (s : Str),s ∈ l → (∀ t,M t ≤ N t) → M s < N s → (l.map M).sum + 1 ≤ (l.map N).sum
 | [],_,_,_,h,_,_ => by simp at h
 | x :: l,M,N,s,h,hle,hlt => by
  have hmono : ∀ l : List Str,(l.map M).sum ≤ (l.map N).sum := fun l => by
   induction l with
   | nil => simp
   | cons y l ih => simp only [List.map_cons,List.sum_cons];have := hle y;omega
  simp only [List.map_cons,List.sum_cons]
  rcases List.mem_cons.1 h with rfl | h
  ·have := hmono l;omega
  ·have := sum_up l M N s h hle hlt;have := hle x;omega
theorem sum_le : ∀ (l : List Str) (M : Str → Nat) (d : Nat),(∀ t,M t ≤ d) → (l.map M).sum ≤ l.length * d
 | [],_,_,_ => by simp
 | x :: l,M,d,h => by
  have := sum_le l M d h
  have := h x
  simp only [List.map_cons,List.sum_cons,List.length_cons,Nat.add_mul]
  omega
theorem Sub.tot_le {p : List PRule} {M : Str → Nat} (h : Sub p M) : tot p M ≤ Dh p * Dh p := sum_le _ _ _ fun t => by have := h.lt t;omega
theorem Sub.step {p : List PRule} {M : Str → Nat} (h : Sub p M) {r : PRule} (hr : r ∈ p) {a : PAtom} (ha : a ∈ r.body) (hd : M a.name + dl p a < Dh p) (hup : ¬ M a.name + dl p a ≤ M r.head.name) : Sub p (raise p M r a) ∧ tot p M + 1 ≤ tot p (raise p M r a) := by
 have hh : r.head.name ∈ headsOf p := List.mem_map.2 ⟨r,hr,rfl⟩
 refine ⟨⟨fun N hN s => ?_,fun s hs => ?_,fun s => ?_⟩,?_⟩
 ·unfold raise
  split
  ·rename_i e
   have h1 := h.under N hN a.name
   have h2 := hN.up r hr a ha
   rw [e];omega
  ·exact h.under N hN s
 ·unfold raise
  rw [if_neg (fun e => hs (by rw [e];exact hh))]
  exact h.out s hs
 ·unfold raise
  split
  ·exact .inl hd
  ·exact h.lt s
 ·refine sum_up _ _ _ r.head.name ((mem_onceS _ _).2 hh) (fun t => ?_) ?_
  ·unfold raise
   split
   ·rename_i e;rw [e];omega
   ·exact ζn _
  ·unfold raise
   rw [if_pos rfl];omega
theorem Sub.fail {p : List PRule} {M : Str → Nat} (h : Sub p M) {r : PRule} (hr : r ∈ p) {a : PAtom} (ha : a ∈ r.body) (hd : ¬ M a.name + dl p a < Dh p) : ∀ N,¬ Sol p N := by
 intro N hN
 obtain ⟨L,hL⟩ := exists_least hN
 have h1 := h.under L hL.sol a.name
 have h2 := hL.sol.up r hr a ha
 have h3 := hL.bound (D := onceS (headsOf p)) (fun x hx => (mem_onceS x _).2 hx) (s := r.head.name) (List.mem_map.2 ⟨r,hr,rfl⟩)
 have h4 : Dh p = (onceS (headsOf p)).length := rfl
 omega
theorem Sub.done {p : List PRule} {M : Str → Nat} (h : Sub p M) (hk : ∀ r ∈ p,∀ a ∈ r.body,M a.name + dl p a ≤ M r.head.name) : Least p M := ⟨⟨h.out,hk⟩,fun N hN s => h.under N hN s⟩
theorem onceS_length : ∀ (ks acc : List Str),(ks.foldl (fun acc x => if memS x acc then acc else acc ++ [x]) acc).length ≤ acc.length + ks.length
 | [],acc => by simp
 | k :: ks,acc => by
  rw [List.foldl_cons]
  refine Nat.le_trans (onceS_length ks _) ?_
  split
  ·simp
  ·simp only [List.length_append,List.length_cons,List.length_nil];omega
theorem Dh_le (p : List PRule) : Dh p ≤ p.length := by
 have := onceS_length (headsOf p) []
 simpa [Dh,onceS,headsOf] using this
def StrataIs (p : List PRule) (l : List Int) (q : Int × Int) : Prop :=
 (wrongP p).1 ≠ 0 ∧ l = [] ∧ q = wrongP p ∨
 (wrongP p).1 = 0 ∧ ((∃ L,Least p L ∧ l = p.map (fun r => (L r.head.name : Int)) ∧ q = (0,0)) ∨ ((∀ N,¬ Sol p N) ∧ l = [] ∧ q = (10,0)))
theorem StrataIs.unique {p : List PRule} {l m : List Int} {q r : Int × Int} (h : StrataIs p l q) (k : StrataIs p m r) : l = m ∧ q = r := by
 rcases h with ⟨h1,rfl,rfl⟩ | ⟨h1,⟨L,hL,rfl,rfl⟩ | ⟨h2,rfl,rfl⟩⟩ <;> rcases k with ⟨k1,rfl,rfl⟩ | ⟨k1,⟨M,hM,rfl,rfl⟩ | ⟨k2,rfl,rfl⟩⟩
 ·exact ⟨rfl,rfl⟩
 ·exact absurd k1 h1
 ·exact absurd k1 h1
 ·exact absurd h1 k1
 ·rw [hL.unique hM];exact ⟨rfl,rfl⟩
 ·exact absurd hL.sol (k2 L)
 ·exact absurd h1 k1
 ·exact absurd hM.sol (h2 M)
 ·exact ⟨rfl,rfl⟩
end
end Go.Proofs.YtdngkcieckejoaaGreat
