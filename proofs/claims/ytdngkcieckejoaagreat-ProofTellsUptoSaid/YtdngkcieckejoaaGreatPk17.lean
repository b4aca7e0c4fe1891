/-
  THE TEXTS Ref1Less, Ref1Same, EnvW, one behind the other.
-/
import Derived.Test.YtdngkcieckejoaaGreatPk2
import Derived.Test.YtdngkcieckejoaaGreatPk3
import Derived.Test.YtdngkcieckejoaaGreatPk5
import Derived.Test.YtdngkcieckejoaaGreatPk8
import Derived.Test.YtdngkcieckejoaaGreatPk16
namespace Go.Proofs.YtdngkcieckejoaaGreat
section
open Go.RowKit
theorem ltF_name {f g : PFact} (h : f.name ≠ g.name) : ltF f g = strLt f.name g.name := by
 have h0 : cmpStr f.name g.name ≠ 0 := fun e => h ((cmpStr3.zero _ _).1 e)
 have h1 : cmpFact f g = cmpStr f.name g.name := by simp [cmpFact,orInt,h0]
 rw [Bool.eq_iff_iff]
 simp only [ltF,h1,decide_eq_true_eq]
 exact cmpStr_lt _ _
theorem ltF_len {f g : PFact} (h : f.name = g.name) (k : f.args.length ≠ g.args.length) : ltF f g = decide (f.args.length < g.args.length) := by
 have h0 : cmpStr f.name g.name = 0 := (cmpStr3.zero _ _).2 h
 have h2 : cmpInt (f.args.length : Int) g.args.length ≠ 0 := fun e => k (by have := (cmpInt3.zero _ _).1 e;omega)
 have h1 : cmpFact f g = cmpInt f.args.length g.args.length := by simp [cmpFact,orInt,h0,h2]
 rw [Bool.eq_iff_iff]
 simp only [ltF,h1,decide_eq_true_eq,cmpInt]
 split
 ·constructor <;> intro <;> omega
 ·split <;> constructor <;> intro <;> omega
theorem ltF_args {f g : PFact} (h : f.name = g.name) (k : f.args.length = g.args.length) : ltF f g = decide (cmpStrs f.args g.args < 0) := by
 have h0 : cmpStr f.name g.name = 0 := (cmpStr3.zero _ _).2 h
 have h2 : cmpInt (f.args.length : Int) g.args.length = 0 := (cmpInt3.zero _ _).2 (by omega)
 have h1 : cmpFact f g = cmpStrs f.args g.args := by
  simp only [cmpFact,orInt,h0,h2]
  simp
  intro e;exact e.symm
 simp only [ltF,h1]
theorem cmpStrs_same {x y : Str} {a b : List Str} (h : x = y) : cmpStrs (x :: a) (y :: b) = cmpStrs a b := by
 have h0 : cmpStr x y = 0 := (cmpStr3.zero _ _).2 h
 simp [cmpStrs,h0]
theorem cmpStrs_other {x y : Str} {a b : List Str} (h : x ≠ y) : decide (cmpStrs (x :: a) (y :: b) < 0) = strLt x y := by
 have h0 : cmpStr x y ≠ 0 := fun e => h ((cmpStr3.zero _ _).1 e)
 rw [Bool.eq_iff_iff,decide_eq_true_eq]
 simp only [cmpStrs,if_pos h0]
 exact cmpStr_lt _ _
theorem fresh_drewN {w w' : World} (h : Fresh w w') (n : Nat) : Fresh w (w'.drewN n) := h.trans ⟨n,#[],by simp⟩
attribute [local go_sem ↓] Go.wp_at_zero Go.wp_at_succ
set_option maxRecDepth 100000 in
set_option maxHeartbeats 0 in
theorem lessRef {S T : Nat → Prop} (f g : PFact) (av bv : Value) (w : World) (ha : RdStrs S w av f.args) (hb : RdStrs T w bv g.args) (n1 : f.args.length ≤ 1073741824) :
 Calls Tryz.prog 52 #[.agg #[.string f.name,av],.agg #[.string g.name,bv]] w fun e w' => e = .returned (.bool (ltF f g)) ∧ Fresh w w' := by
 obtain ⟨aa,ac,rfl,-,-,-⟩ := id ha.form
 obtain ⟨ba,bc,rfl,-,-,-⟩ := id hb.form
 have HF := ζ (((Fresh.refl w).alloc (.cells #[.string f.name,.slice aa f.args.length ac] 27)).alloc (.cells #[.string g.name,.slice ba g.args.length bc] 27))
 by_cases hn : f.name = g.name
 ·have g1 : (f.name.toList == g.name.toList) = true := by rw [hn];exact beq_self_eq_true _
  by_cases hl : f.args.length = g.args.length
  ·have HL := ζ (ltF_args hn hl)
   have HA := ζ (fun W (h : Agree (fun _ => True) w W) i x (hx : f.args[i]? = some x) => RdStrs.at ((ha.more ζS (S' := fun _ => True) (fun _ _ _ => trivial)).agree ζS h) hx)
   have HB := ζ (fun W (h : Agree (fun _ => True) w W) i x (hx : g.args[i]? = some x) => RdStrs.at ((hb.more ζS (S' := fun _ => True) (fun _ _ _ => trivial)).agree ζS h) hx)
   have HN := ζ hl
   rw [← hl]
   rw [← hl] at HF
   clear hn ha hb hl
   have c0 : ((w.alloc (.cells #[.string f.name,.slice aa f.args.length ac] 27)).alloc (.cells #[.string g.name,.slice ba f.args.length bc] 27)).cell? ⟨w.heap.size,1,none⟩ = some (.slice aa f.args.length ac) := by
    rw [World.cell?_of_block (Below.heap_alloc _ _ _ (show w.heap.size < _ by simp))];simp
   have c1 : ((w.alloc (.cells #[.string f.name,.slice aa f.args.length ac] 27)).alloc (.cells #[.string g.name,.slice ba f.args.length bc] 27)).cell? ⟨w.heap.size + 1,1,none⟩ = some (.slice ba f.args.length bc) := by
    have e : w.heap.size + 1 = (w.alloc (.cells #[.string f.name,.slice aa f.args.length ac] 27)).heap.size := by simp
    rw [e];simp
   have hsz : w.heap.size + 1 < ((w.alloc (.cells #[.string f.name,.slice aa f.args.length ac] 27)).alloc (.cells #[.string g.name,.slice ba f.args.length bc] 27)).heap.size := by simp
   go_enter Tryz.func52,Tryz.ntmps52
   go_wp2
   generalize (w.alloc (.cells #[.string f.name,.slice aa f.args.length ac] 27)).alloc (.cells #[.string g.name,.slice ba f.args.length bc] 27) = w0 at *
   go_loopw [33] (fun i wr => ∃ k : Nat,k ≤ f.args.length ∧ i = .int .i64 k ∧ Hid (ltF f g = decide (cmpStrs (f.args.drop k) (g.args.drop k) < 0)) ∧ Hid (Fresh w0 wr)) (fun i _ => f.args.length - (intOf i).toNat)
   case atStart => exact ⟨0,Nat.zero_le _,rfl,HL,Fresh.refl _⟩
   case round =>
    obtain ⟨k,hk,rfl,HR,HW⟩ := hrel
    have d0 := (ζl HW.out.below (show w.heap.size < _ by omega) 1).trans c0
    have d1 := (ζl HW.out.below hsz 1).trans c1
    clear c0 c1
    by_cases hlt : k < f.args.length
    ·obtain ⟨x,hx⟩ : ∃ x,f.args[k]? = some x := ⟨_,ζe hlt⟩
     obtain ⟨y,hy⟩ : ∃ y,g.args[k]? = some y := ⟨_,ζe (by rw [← HN.out];exact hlt)⟩
     have hag : Agree (fun _ => True) w wr := Below.agree (HF.out.trans HW.out).below
     obtain ⟨b1,o1,rfl,-,-,hc1⟩ := HA.out wr hag k x hx
     obtain ⟨b2,o2,rfl,-,-,hc2⟩ := HB.out wr hag k y hy
     have HX := ζ hx
     have HY := ζ hy
     clear hx hy hag
     have i1 : (0 : Int) ≤ (k : Int) := by omega
     have i2 : (k : Int) < (f.args.length : Int) := by omega
     by_cases hxy : x = y
     ·have gz : (x.toList == y.toList) = true := by rw [hxy];exact beq_self_eq_true _
      have HXY := ζ hxy
      clear hxy
      go_wp2_with fail
      go_quiet (fail)
      go_wp2
      go_roundw
      case rel =>
       refine ⟨k + 1,by omega,by go_num,?_,?_⟩
       ·rw [HR.out,drop_cons HX.out,drop_cons HY.out,cmpStrs_same HXY.out];exact ζ rfl
       ·exact ζ (fresh_drewN HW.out _)
      case measure => simp [intOf];omega
     ·have gz : (x.toList == y.toList) = false := by rw [beq_toList];exact decide_eq_false hxy
      have HXY := ζ (show ltF f g = strLt x y by rw [HR.out,drop_cons HX.out,drop_cons HY.out];exact cmpStrs_other hxy)
      clear hxy
      obtain ⟨s,hs⟩ : ∃ s,strLt x y = s := ⟨_,rfl⟩
      rw [hs] at HXY
      have gs : Op.bytesLess x.toList y.toList = s := hs
      clear hs
      go_wp2_with fail
      go_quiet (fail)
      go_wp2_with fail
      go_quiet (fail)
      go_wp2
      go_ret
      refine ⟨ret_bool HXY.out.symm,?_⟩
      exact fresh_drewN (fresh_drewN (HF.out.trans HW.out) _) _
    ·have HE := ζ (show ltF f g = false by rw [HR.out,drop_end (by omega : f.args.length ≤ k),drop_end (by rw [← HN.out];omega : g.args.length ≤ k)];rfl)
     go_wp2
     go_ret
     exact ⟨ret_bool HE.out.symm,HF.out.trans HW.out⟩
  ·have HL := ζ (ltF_len hn hl)
   have i1 : ((f.args.length : Int) == (g.args.length : Int)) = false := by simp;omega
   have i2 : ¬ ((f.args.length : Int) = (g.args.length : Int)) := by omega
   clear hn ha hb
   go_enter Tryz.func52,Tryz.ntmps52
   go_wp2
   go_ret
   exact ⟨by rw [HL.out];simp,HF.out⟩
 ·have HL := ζ (ltF_name hn)
  have g1 : (f.name.toList == g.name.toList) = false := by rw [beq_toList];exact decide_eq_false hn
  obtain ⟨s,hs⟩ : ∃ s,strLt f.name g.name = s := ⟨_,rfl⟩
  rw [hs] at HL
  have gs : Op.bytesLess f.name.toList g.name.toList = s := hs
  clear hs hn ha hb
  go_enter Tryz.func52,Tryz.ntmps52
  go_wp2
  go_ret
  exact ⟨ret_bool HL.out.symm,HF.out⟩
theorem equal_ltF (f g : PFact) : decide (f = g) = (!ltF f g && !ltF g f) := by
 rw [Bool.eq_iff_iff,decide_eq_true_eq]
 constructor
 ·rintro rfl;simp [ltF_irrefl]
 ·intro h
  simp only [Bool.and_eq_true,Bool.not_eq_true'] at h
  exact ltF_tri h.1 h.2
set_option maxHeartbeats 0 in
theorem equalRef {S T : Nat → Prop} (f g : PFact) (av bv : Value) (w : World) (ha : RdStrs S w av f.args) (hb : RdStrs T w bv g.args) (n1 : f.args.length ≤ 1073741824) (n2 : g.args.length ≤ 1073741824) :
 Calls Tryz.prog 28 #[.agg #[.string f.name,av],.agg #[.string g.name,bv]] w fun e w' => e = .returned (.bool (decide (f = g))) ∧ Fresh w w' := by
 obtain ⟨aa,ac,rfl,-,-,-⟩ := id ha.form
 obtain ⟨ba,bc,rfl,-,-,-⟩ := id hb.form
 have HF := ζ (((Fresh.refl w).alloc (.cells #[.string f.name,.slice aa f.args.length ac] 27)).alloc (.cells #[.string g.name,.slice ba g.args.length bc] 27))
 have K1 := ζ (fun W (h : Agree (fun _ => True) w W) => lessRef f g _ _ W ((ha.more ζS (S' := fun _ => True) (fun _ _ _ => trivial)).agree ζS h) ((hb.more ζS (S' := fun _ => True) (fun _ _ _ => trivial)).agree ζS h) n1)
 have K2 := ζ (fun W (h : Agree (fun _ => True) w W) => lessRef g f _ _ W ((hb.more ζS (S' := fun _ => True) (fun _ _ _ => trivial)).agree ζS h) ((ha.more ζS (S' := fun _ => True) (fun _ _ _ => trivial)).agree ζS h) n2)
 have HE := ζ (equal_ltF f g)
 clear ha hb
 cases h1 : ltF f g
 ·rw [h1] at K1 HE
  clear h1
  have c0 : ((w.alloc (.cells #[.string f.name,.slice aa f.args.length ac] 27)).alloc (.cells #[.string g.name,.slice ba g.args.length bc] 27)).cell? ⟨w.heap.size,0,none⟩ = some (.string f.name) := by
   rw [World.cell?_of_block (Below.heap_alloc _ _ _ (show w.heap.size < _ by simp))];simp
  have c1 : ((w.alloc (.cells #[.string f.name,.slice aa f.args.length ac] 27)).alloc (.cells #[.string g.name,.slice ba g.args.length bc] 27)).cell? ⟨w.heap.size,1,none⟩ = some (.slice aa f.args.length ac) := by
   rw [World.cell?_of_block (Below.heap_alloc _ _ _ (show w.heap.size < _ by simp))];simp
  have e : w.heap.size + 1 = (w.alloc (.cells #[.string f.name,.slice aa f.args.length ac] 27)).heap.size := by simp
  have d0 : ((w.alloc (.cells #[.string f.name,.slice aa f.args.length ac] 27)).alloc (.cells #[.string g.name,.slice ba g.args.length bc] 27)).cell? ⟨w.heap.size + 1,0,none⟩ = some (.string g.name) := by
   rw [e];simp
  have d1 : ((w.alloc (.cells #[.string f.name,.slice aa f.args.length ac] 27)).alloc (.cells #[.string g.name,.slice ba g.args.length bc] 27)).cell? ⟨w.heap.size + 1,1,none⟩ = some (.slice ba g.args.length bc) := by
   rw [e];simp
  have hsz : w.heap.size + 1 < ((w.alloc (.cells #[.string f.name,.slice aa f.args.length ac] 27)).alloc (.cells #[.string g.name,.slice ba g.args.length bc] 27)).heap.size := by simp
  clear e
  go_enter Tryz.func28,Tryz.ntmps28
  go_wp2_with (first
   | (go_at_call 52;refine (K2.out _ (Below.agree (HF.out.trans HW1.out).below)).mono ?_;rintro e w2 ⟨rfl,hf2⟩;have HW2 := ζ ((HF.out.trans HW1.out).trans hf2);clear hf2)
   | (go_at_call 52;refine (K1.out _ (Below.agree HF.out.below)).mono ?_;rintro e w1 ⟨rfl,hf1⟩;have HW1 := ζ hf1;have x0 := (ζl hf1.below (show w.heap.size < _ by omega) 0).trans c0;have x1 := (ζl hf1.below (show w.heap.size < _ by omega) 1).trans c1;have y0 := (ζl hf1.below hsz 0).trans d0;have y1 := (ζl hf1.below hsz 1).trans d1;clear hf1))
  go_ret
  refine ⟨ret_bool ?_,HW2.out⟩
  rw [HE.out];simp
 ·rw [h1] at K1 HE
  clear h1
  go_enter Tryz.func28,Tryz.ntmps28
  go_wp2_with (go_at_call 52;refine (K1.out _ (Below.agree HF.out.below)).mono ?_;rintro e w1 ⟨rfl,hf1⟩)
  go_ret
  refine ⟨ret_bool ?_,HF.out.trans hf1⟩
  rw [HE.out];simp
end
section
open Go.RowKit
attribute [local go_sem ↓] Go.wp_at_zero Go.wp_at_succ
theorem memF_drop {f x : PFact} {l : List PFact} {k : Nat} (h : l[k]? = some x) : memF f (l.drop k) = (decide (x = f) || memF f (l.drop (k + 1))) := by
 rw [Bool.eq_iff_iff]
 simp only [Bool.or_eq_true,decide_eq_true_eq,memF_iff]
 rw [drop_cons h,List.mem_cons]
 constructor
 ·rintro (h | h)
  ·exact .inl h.symm
  ·exact .inr h
 ·rintro (h | h)
  ·exact .inl h.symm
  ·exact .inr h
set_option maxRecDepth 100000 in
set_option maxHeartbeats 0 in
theorem inRef {S T : Nat → Prop} (v : Value) (l : List PFact) (f : PFact) (av : Value) (w : World) (h : RdFacts S w v l) (hf : RdStrs T w av f.args) (n1 : l.length ≤ 1073741824) (n2 : ∀ x ∈ l,x.args.length ≤ 1073741824) (n3 : f.args.length ≤ 1073741824) :
 Calls Tryz.prog 26 #[v,.agg #[.string f.name,av]] w fun e w' => e = .returned (.bool (memF f l)) ∧ Fresh w w' := by
 obtain ⟨a,c,rfl,-,-,-⟩ := id h.form
 obtain ⟨fa,fc,rfl,-,-,-⟩ := id hf.form
 have H := ζ (fun W (ha : Agree (fun _ => True) w W) i x (hx : l[i]? = some x) => RdFacts.at ((h.more ζF (S' := fun _ => True) (fun _ _ _ => trivial)).agree ζF ha) hx)
 have HF := ζ (fun W (ha : Agree (fun _ => True) w W) => (hf.more ζS (S' := fun _ => True) (fun _ _ _ => trivial)).agree ζS ha)
 have N2 := ζ n2
 clear h hf n2
 have c0 : (w.alloc (.cells #[.string f.name,.slice fa f.args.length fc] 27)).cell? ⟨w.heap.size,0,none⟩ = some (.string f.name) := by simp
 have c1 : (w.alloc (.cells #[.string f.name,.slice fa f.args.length fc] 27)).cell? ⟨w.heap.size,1,none⟩ = some (.slice fa f.args.length fc) := by simp
 have hsz : w.heap.size < (w.alloc (.cells #[.string f.name,.slice fa f.args.length fc] 27)).heap.size := by simp
 have HF0 := ζ ((Fresh.refl w).alloc (.cells #[.string f.name,.slice fa f.args.length fc] 27))
 go_enter Tryz.func26,Tryz.ntmps26
 go_wp2
 generalize w.alloc (.cells #[.string f.name,.slice fa f.args.length fc] 27) = w0 at *
 go_loopw [9] (fun i wr => ∃ k : Nat,k ≤ l.length ∧ i = .int .i64 k ∧ Hid (memF f l = memF f (l.drop k)) ∧ Hid (Fresh w0 wr)) (fun i _ => l.length - (intOf i).toNat)
 case atStart => exact ⟨0,Nat.zero_le _,rfl,ζ rfl,Fresh.refl _⟩
 case round =>
  obtain ⟨k,hk,rfl,HR,HW⟩ := hrel
  have d0 := (ζl HW.out.below hsz 0).trans c0
  have d1 := (ζl HW.out.below hsz 1).trans c1
  have hsr : w.heap.size < wr.heap.size := Nat.lt_of_lt_of_le hsz HW.out.below.size
  clear c0 c1
  by_cases hlt : k < l.length
  ·obtain ⟨x,hx⟩ : ∃ x,l[k]? = some x := ⟨_,ζe hlt⟩
   have hag : Agree (fun _ => True) w wr := Below.agree (HF0.out.trans HW.out).below
   obtain ⟨b1,o1,av,rfl,-,hb1,e0,e1,hav⟩ := H.out wr hag k x hx
   obtain ⟨xa,xc,rfl,-,-,-⟩ := id hav.form
   have nx : x.args.length ≤ 1073741824 := N2.out x (ζm hx)
   have K := ζ (equalRef x f (.slice xa x.args.length xc) (.slice fa f.args.length fc) (wr.alloc (.cells #[.string x.name,.slice xa x.args.length xc] 27)) (hav.agree ζS ((Agree.refl _ _).alloc _)) ((HF.out wr hag).agree ζS ((Agree.refl _ _).alloc _)) nx n3)
   have HM := ζ (memF_drop (f := f) hx)
   have m0 := (World.cell?_of_block (a := ⟨w.heap.size,0,none⟩) (Below.heap_alloc wr (.cells #[.string x.name,.slice xa x.args.length xc] 27) w.heap.size hsr)).trans d0
   have m1 := (World.cell?_of_block (a := ⟨w.heap.size,1,none⟩) (Below.heap_alloc wr (.cells #[.string x.name,.slice xa x.args.length xc] 27) w.heap.size hsr)).trans d1
   clear hx hag hav nx
   cases hxy : decide (x = f)
   ·rw [hxy] at K HM
    clear hxy
    go_wp2_with (go_at_call 28;refine (K.out).mono ?_;rintro e w1 ⟨rfl,hf1⟩;have HW2 := ζ ((HW.out.alloc _).trans hf1);clear hf1)
    go_roundw
    case rel => exact ⟨k + 1,by omega,by go_num,ζ (by rw [HR.out,HM.out];simp),HW2.out⟩
    case measure => simp [intOf];omega
   ·rw [hxy] at K HM
    clear hxy
    go_wp2_with (go_at_call 28;refine (K.out).mono ?_;rintro e w1 ⟨rfl,hf1⟩;have HW2 := ζ ((HW.out.alloc _).trans hf1);clear hf1)
    go_ret
    exact ⟨ret_bool (by rw [HR.out,HM.out];simp),HF0.out.trans HW2.out⟩
  ·have HE := ζ (show memF f l = false by rw [HR.out,drop_end (by omega : l.length ≤ k)];rfl)
   go_wp2
   go_ret
   exact ⟨ret_bool HE.out.symm,HF0.out.trans HW.out⟩
end
section
open Go.RowKit Go.Maps
def EnvsPost (r : Option (List Binds)) (w : World) (e : Ending) (w' : World) : Prop :=
 Below w.heap.size w w' ∧ match r with
  | none => e = .returned (.tuple #[.slice none 0 0,.int .i64 4])
  | some ls => ∃ a c,e = .returned (.tuple #[.slice a ls.length c,.int .i64 0]) ∧ RdEnvs 20 (New w) w' (.slice a ls.length c) ls
def envsP (body : List PAtom) (facts : List PFact) (at' : Int) (other : List PFact) : Option (List Binds) := (goP (pickP facts other at') 0 [[]] body).map fun ls => notP (pickP facts other at') 0 ls body
theorem envs_none {body : List PAtom} {facts : List PFact} {at' : Int} {other : List PFact} {w w' : World} (h : goP (pickP facts other at') 0 [[]] body = none) (hb : Below w.heap.size w w') : EnvsPost (envsP body facts at' other) w (.returned (.tuple #[.slice none 0 0,.int .i64 4])) w' :=
 ⟨hb,by unfold envsP;rw [h];rfl⟩
theorem envs_some {body : List PAtom} {facts : List PFact} {at' : Int} {other : List PFact} {ls o : List Binds} {w w' : World} {a : Option Addr} {c : Nat} (h : goP (pickP facts other at') 0 [[]] body = some ls) (hb : Below w.heap.size w w') (ho : ls.filter (goodP (pickP facts other at') 0 body) = o) (hr : RdEnvs 20 (New w) w' (.slice a o.length c) o) :
 EnvsPost (envsP body facts at' other) w (.returned (.tuple #[.slice a o.length c,.int .i64 0])) w' := by
 refine ⟨hb,?_⟩
 have h2 : envsP body facts at' other = some o := by unfold envsP;rw [h,← ho,← notP_filter];rfl
 rw [h2]
 exact ⟨a,c,rfl,hr⟩
theorem RdEnvs.one {N : Nat} {S : Nat → Prop} {w : World} {b m : Nat} {x : Binds} (h : Blk w b 88 #[.map (some m)]) (hS : S b) (hm : S m) (hM : MapE w m N fun v => getB v x) : RdEnvs N S w (.slice (some ⟨b,0,none⟩) 1 1) [x] := by
 refine ⟨some ⟨b,0,none⟩,1,rfl,ζn _,by simp [maxLen],(fun h => by cases h),fun i y hy => ?_⟩
 rcases i with _ | i
 ·obtain rfl := Option.some.inj hy
  refine ⟨b,0,[.map (some m)],rfl,hS,h.lt,rfl,fun j u hu => ?_,m,rfl,hm,hM⟩
  rcases j with _ | j
  ·obtain rfl := Option.some.inj hu
   exact h.cell 0
  ·simp at hu
 ·simp at hy
set_option maxRecDepth 100000 in
set_option maxHeartbeats 0 in
theorem envsRef {S S2 S3 : Nat → Prop} (body : List PAtom) (bv : Value) (facts : List PFact) (fv : Value) (at' : Int) (other : List PFact) (ov : Value) (w : World) (hb : RdAtoms S w bv body) (hf : RdFacts S2 w fv facts) (ho : RdFacts S3 w ov other)
 (hz : bodyBad body = 0) (b1 : ∀ a ∈ body,∀ t ∈ a.terms,t.name.size ≤ 1048576)
 (n1 : facts.length ≤ 1048576) (n2 : ∀ x ∈ facts,x.args.length ≤ 1048576 ∧ ∀ a ∈ x.args,a.size ≤ 1048576) (m1 : other.length ≤ 1048576) (m2 : ∀ x ∈ other,x.args.length ≤ 1048576 ∧ ∀ a ∈ x.args,a.size ≤ 1048576) :
 Calls Tryz.prog 74 #[bv,fv,.int .i64 at',ov] w (EnvsPost (envsP body facts at' other) w) := by
 have hmm := @run_makeMap Tryz.prog
 have hnn : ∀ (W : World) (r : Option Nat),(binOp .neq 88 (.map r) (.map none)).run Tryz.prog W = .ok (.bool (!r.isNone)) W := fun W r => Go.run_neq_map_nil W _ _ _ r Tryz.underlying88
 obtain ⟨ba,bc,rfl,-,-,-⟩ := id hb.form
 obtain ⟨fa,fc,rfl,-,-,-⟩ := id hf.form
 obtain ⟨oa,oc,rfl,-,-,-⟩ := id ho.form
 have h5 := body_atoms hz
 have HT4 := ζ (fun a (ha : a ∈ body) => body_terms hz ha)
 have HGF := ζ (fun ls hg => go_fill (pick := pickP facts other at') (ls := ls) hz hg)
 have HB := ζ hb
 have B1 := ζ b1
 have HPK := ζ (show ∀ k : Nat,∃ pa pc,(if (k : Int) = at' then (Value.slice oa other.length oc) else .slice fa facts.length fc) = .slice pa (pickP facts other at' k).length pc ∧ RdFacts (fun _ => True) w (.slice pa (pickP facts other at' k).length pc) (pickP facts other at' k) ∧
  (pickP facts other at' k).length ≤ 1048576 ∧ ∀ x ∈ pickP facts other at' k,x.args.length ≤ 1048576 ∧ ∀ a ∈ x.args,a.size ≤ 1048576 from fun k => by
  unfold pickP
  by_cases e : (k : Int) = at'
  ·rw [if_pos e,if_pos e];exact ⟨oa,oc,rfl,ho.more ζF (fun _ _ _ => trivial),m1,m2⟩
  ·rw [if_neg e,if_neg e];exact ⟨fa,fc,rfl,hf.more ζF (fun _ _ _ => trivial),n1,n2⟩)
 generalize hpick : pickP facts other at' = pick at *
 obtain ⟨W0,hW0⟩ : ∃ W0 : World,((((w.alloc (.cells #[.slice fa facts.length fc] 24)).alloc (.cells #[.int .i64 at'] 3)).alloc (.cells #[.slice oa other.length oc] 24)).alloc (.map #[] 0)).alloc (.cells #[.map (some (w.heap.size + 1 + 1 + 1))] 88) = W0 := ⟨_,rfl⟩
 have HB0 : Hid (Below w.heap.size w W0) := ζ (by subst hW0;exact (((((ζb _ _).alloc (ζn _) _).alloc (by simp) _).alloc (by simp;omega) _).alloc (by simp;omega) _).alloc (by simp;omega) _)
 have HKF : Hid (Blk W0 w.heap.size 24 #[.slice fa facts.length fc]) := ζ (by subst hW0;exact ((((Blk.new w _ _).alloc _).alloc _).alloc _).alloc _)
 have HKA : Hid (Blk W0 (w.heap.size + 1) 3 #[.int .i64 at']) := ζ (by subst hW0;exact (((Blk.at_ (by simp)).alloc _).alloc _).alloc _)
 have HKL : Hid (Blk W0 (w.heap.size + 1 + 1) 24 #[.slice oa other.length oc]) := ζ (by subst hW0;exact ((Blk.at_ (by simp)).alloc _).alloc _)
 have HE0 : Hid (RdEnvs (4 * 0) (New w) W0 (.slice (some ⟨w.heap.size + 1 + 1 + 1 + 1,0,none⟩) 1 1) [[]]) := ζ (by
  subst hW0
  refine RdEnvs.one (m := w.heap.size + 1 + 1 + 1) (Blk.at_ (by simp)) (by show w.heap.size ≤ _;omega) (by show w.heap.size ≤ _;omega) ?_
  have hm := (MapE.made (((w.alloc (.cells #[.slice fa facts.length fc] 24)).alloc (.cells #[.int .i64 at'] 3)).alloc (.cells #[.slice oa other.length oc] 24))).alloc (.cells #[.map (some (w.heap.size + 1 + 1 + 1))] 88)
  rw [show (((w.alloc (.cells #[.slice fa facts.length fc] 24)).alloc (.cells #[.int .i64 at'] 3)).alloc (.cells #[.slice oa other.length oc] 24)).heap.size = w.heap.size + 1 + 1 + 1 by simp] at hm
  exact hm)
 have HG0 : Hid (goP pick 0 [[]] body = goP pick 0 [[]] (body.drop 0)) := ζ rfl
 have HNone := ζ (fun W (h : goP pick 0 [[]] body = none) (hW : Below w.heap.size w W) => envs_none (body := body) (facts := facts) (at' := at') (other := other) (by rw [hpick];exact h) hW)
 have HSome := ζ (fun W ls o a c (h : goP pick 0 [[]] body = some ls) (hW : Below w.heap.size w W) h2 h3 => envs_some (body := body) (facts := facts) (at' := at') (other := other) (o := o) (a := a) (c := c) (by rw [hpick];exact h) hW (by rw [hpick];exact h2) h3)
 have hw0 : w.heap.size + 1 + 1 < W0.heap.size := HKL.out.lt
 have KP := ζ (fun (k : Nat) pa pc (he : (if (k : Int) = at' then (Value.slice oa other.length oc) else .slice fa facts.length fc) = .slice pa (pick k).length pc) W (hW : Below W0.heap.size W0 W) => (show Calls Tryz.prog 95 #[.int .i64 (k : Int),.pointer (some ⟨w.heap.size + 1,0,none⟩),.pointer (some ⟨w.heap.size + 1 + 1,0,none⟩),.pointer (some ⟨w.heap.size,0,none⟩)] W fun e w' => e = .returned (.slice pa (pick k).length pc) ∧ W = w' by
  rw [← he]
  exact pickRef k at' _ _ _ _ _ W (HKA.out.below hW (by omega)) (HKL.out.below hW (by omega)) (HKF.out.below hW (by omega))))
 clear hb hf ho hz b1 n1 n2 m1 m2 hpick
 go_enter Tryz.func74,Tryz.ntmps74
 go_wp2
 clear hW0 hmm
 go_loopw [33,10] (fun i v wr => ∃ (k : Nat) (ls : List Binds) (ea : Option Addr) (ec : Nat),k ≤ body.length ∧ i = .int .i64 k ∧ v = .slice ea ls.length ec ∧ ls.length ≤ 20000 ∧ Hid (RdEnvs (4 * k) (New w) wr (.slice ea ls.length ec) ls) ∧ Hid (Below W0.heap.size W0 wr) ∧ Hid (goP pick 0 [[]] body = goP pick k ls (body.drop k))) (fun i _ _ => body.length - (intOf i).toNat)
 case atStart => exact ⟨0,[[]],_,_,Nat.zero_le _,rfl,rfl,by simp,HE0,ζ (ζb _ _),HG0⟩
 case round =>
  clear HE0 HG0
  obtain ⟨k,ls,ea,ec,hk,rfl,rfl,hls,HE,HBW,HG⟩ := hrel
  have HBw := ζ (HB0.out.trans (HBW.out.mono (Below.size HB0.out)))
  have hsz := HBW.out.size
  by_cases hlt : k < body.length
  ·obtain ⟨a,hx⟩ : ∃ a,body[k]? = some a := ⟨_,ζe hlt⟩
   obtain ⟨b4,o4,yv,rfl,-,-,e0,e1,e2,hyv⟩ := RdAtoms.at (HB.out.up HBw.out) hx
   obtain ⟨ya,yc,rfl,-,-,-⟩ := id hyv.form
   have hat4 := HT4.out a (ζm hx)
   have HA1 := ζ (B1.out a (ζm hx))
   have HGN := ζ (show goP pick 0 [[]] body = goP pick k ls (a :: body.drop (k + 1)) by rw [HG.out,drop_cons hx])
   have HY := ζ hyv
   obtain ⟨W1,hW1⟩ : ∃ W1 : World,wr.alloc (.cells #[.bool a.neg,.string a.name,.slice ya a.terms.length yc] 78) = W1 := ⟨_,rfl⟩
   have HB1 : Hid (Below wr.heap.size wr W1) := ζ (by subst hW1;exact (ζb _ _).alloc (ζn _) _)
   have HK1 : Hid (Blk W1 wr.heap.size 78 #[.bool a.neg,.string a.name,.slice ya a.terms.length yc]) := ζ (by subst hW1;exact Blk.new wr _ _)
   have HBX := ζ (HBW.out.trans (HB1.out.mono hsz))
   have HEX := ζ (RdSlice.agree (REnv.steady (4 * k)) (Below.agree HB1.out) HE.out)
   have HYX := ζ (HY.out.up HB1.out)
   have hs1 : wr.heap.size < W1.heap.size := HK1.out.lt
   have k0 := HK1.out.cell 0;have k1 := HK1.out.cell 1;have k2 := HK1.out.cell 2
   simp only [ζc] at k0 k1 k2
   clear hx hyv HG HY HE
   cases hn : a.neg
   case true =>
    rw [hn] at hW1 HK1 e0 k0
    have HG2 := ζ (HGN.out.trans (goP_neg hn))
    have HE2 := ζ (RdEnvs.mono (show 4 * k ≤ 4 * (k + 1) by omega) HEX.out)
    clear hn HGN HEX
    go_wp2
    go_roundw
    case rel => exact ⟨k + 1,ls,_,_,by omega,by go_num,rfl,hls,HE2,HBX,HG2⟩
    case measure => simp [intOf];omega
   case false =>
    rw [hn] at hW1 HK1 e0 k0
    obtain ⟨pa,pc,hpe,hpr,hpl,hps⟩ := HPK.out k
    have KP1 := ζ (KP.out k pa pc hpe)
    have HPR := ζ hpr
    have HPS := ζ hps
    have HGM := ζ (fun h => HGN.out.trans (goP_many hn h))
    have HGP := ζ (fun h => HGN.out.trans (goP_pos hn h))
    have HO0 := ζ (show Owned 1 (REnv (4 * (k + 1))) W1.heap.size 88 (New W1) W1 (.slice none 0 0) (stepP (ls.take 0) a (pick k)) from Owned.nil)
    have HR0 := ζ (ζb W1.heap.size W1)
    have HWB := ζ (HBw.out.trans (HB1.out.mono (Below.size HBw.out)))
    have HNG := ζ hn
    clear hn HGN hpe hpr hps HBW HBw
    generalize hpk : pick k = fs at *
    clear hpk
    go_wp2
    clear k0 k1 k2 e0 e1 e2
    go_loopw [42,14] (fun i v wx => ∃ (j : Nat),j ≤ ls.length ∧ i = .int .i64 j ∧ Hid (Owned 1 (REnv (4 * (k + 1))) W1.heap.size 88 (New W1) wx v (stepP (ls.take j) a fs)) ∧ Hid (Below W1.heap.size W1 wx)) (fun i _ _ => ls.length - (intOf i).toNat)
    case atStart => exact ⟨0,Nat.zero_le _,rfl,HO0,HR0⟩
    case round =>
     clear HO0 HR0
     obtain ⟨j,hj,rfl,HO,HR⟩ := hrel
     have HBx := ζ (HBX.out.trans (HR.out.mono (Below.size HBX.out)))
     by_cases hlj : j < ls.length
     ·obtain ⟨l,hl⟩ : ∃ l,ls[j]? = some l := ⟨_,ζe hlj⟩
      obtain ⟨b2,o2,mb,rfl,-,hb2,c2',-,hM2⟩ := RdEnvs.at HEX.out hl
      have c2 := (ζl HR.out hb2 (o2 + j)).trans c2'
      have HM := ζ hM2
      have HSJ := ζ (stepP_snoc (a := a) (fs := fs) hl)
      obtain ⟨wo,hwo⟩ : ∃ wo : World,wo = wr := ⟨_,rfl⟩
      subst hwo
      have HO1 := ζ (show Owned 1 (REnv (4 * (k + 1))) W1.heap.size 88 (New W1) wo _ (stepP (ls.take j) a fs ++ meets a l (fs.take 0)) by rw [List.take_zero];show Owned _ _ _ _ _ _ _ (stepP (ls.take j) a fs ++ []);rw [List.append_nil];exact HO.out)
      have HR1 := ζ HR.out
      clear hl hM2 c2' HO
      go_wp2_with (go_at_call 95;refine (KP1.out _ HBx.out).mono ?_;rintro e w5 ⟨rfl,rfl⟩)
      clear c2 HR HBx
      go_loopw [50,14] (fun i v wx => ∃ (q : Nat),q ≤ fs.length ∧ i = .int .i64 q ∧ Hid (Owned 1 (REnv (4 * (k + 1))) W1.heap.size 88 (New W1) wx v (stepP (ls.take j) a fs ++ meets a l (fs.take q))) ∧ Hid (Below W1.heap.size W1 wx)) (fun i _ _ => fs.length - (intOf i).toNat)
      case atStart => exact ⟨0,Nat.zero_le _,rfl,HO1,HR1⟩
      case round =>
       clear HO1 HR1
       obtain ⟨q,hq,rfl,HO,HR⟩ := hrel
       by_cases hlq : q < fs.length
       ·obtain ⟨f,hf⟩ : ∃ f,fs[q]? = some f := ⟨_,ζe hlq⟩
        have HWr := ζ (HWB.out.trans (HR.out.mono (Below.size HWB.out)))
        obtain ⟨b6,o6,av,rfl,-,-,f0,f1,hav⟩ := RdFacts.at (HPR.out.up HWr.out) hf
        obtain ⟨xa,xc,rfl,-,-,-⟩ := id hav.form
        obtain ⟨hx1,hx2⟩ := HPS.out f (ζm hf)
        have HK3 := ζ (HK1.out.below HR.out hs1)
        have g0 := HK3.out.cell 0;have g1 := HK3.out.cell 1;have g2 := HK3.out.cell 2
        simp only [ζc] at g0 g1 g2
        have hszr := Below.size HR.out
        have hlt3 := HK3.out.lt
        have HR3 := ζ (HR.out.alloc hszr (.cells #[.string f.name,.slice xa f.args.length xc] 27))
        have HO3 := ζ (HO.out.alloc (REnv.steady _) (.cells #[.string f.name,.slice xa f.args.length xc] 27))
        have HRow := ζ (fun g h => (HO.out.row_lt (g := g) h))
        have KT := tryRef a (.slice ya a.terms.length yc) f (.slice xa f.args.length xc) l mb (4 * k) (wr.alloc (.cells #[.string f.name,.slice xa f.args.length xc] 27)) (HYX.out.up HR3.out) (hav.agree ζS ((Agree.refl _ _).alloc _)) (HM.out.below HR3.out HM.out.lt) (by omega) hx1 (by omega) HA1.out hx2
        rw [HNG.out] at KT
        have HMQ := ζ (meets_snoc (a := a) (l := l) hf)
        have HNL := ζ (show (stepP (ls.take j) a fs ++ meets a l (fs.take q)).length < 1099511627776 by
         have h1 := stepP_length (ls.take j) a fs
         have h2 : (meets a l (fs.take q)).length ≤ (fs.take q).length := List.length_filterMap_le _ _
         rw [List.length_take] at h1 h2
         have h3 : min j ls.length * fs.length ≤ 20000 * 1048576 := Nat.mul_le_mul (by omega) hpl
         rw [List.length_append];omega)
        clear hf hav HWr HO
        cases hm : meetP a f l with
        | none =>
         have KN := ζ (KT.mono (R' := fun e w' => e = .returned (.map none) ∧ Below (wr.alloc (.cells #[.string f.name,.slice xa f.args.length xc] 27)).heap.size (wr.alloc (.cells #[.string f.name,.slice xa f.args.length xc] 27)) w') fun e w' ⟨h1,h2⟩ => by rw [hm] at h2;exact ⟨h2,h1⟩)
         rw [hm] at HMQ
         clear hm KT hx1 hx2
         go_wp2_with (go_at_call 32;refine (KN.out).mono ?_;rintro e w6 ⟨rfl,hb6⟩;have HR6 := ζ (HR3.out.trans (hb6.mono (Below.size HR3.out)));have HO6 := ζ (HO3.out.below (REnv.steady _) hb6);clear hb6)
         have HO7 := ζ (show Owned 1 (REnv (4 * (k + 1))) W1.heap.size 88 (New W1) w6 _ (stepP (ls.take j) a fs ++ meets a l (fs.take (q + 1))) by rw [HMQ.out];show Owned _ _ _ _ _ _ _ (stepP (ls.take j) a fs ++ (meets a l (fs.take q) ++ []));rw [List.append_nil];exact HO6.out)
         go_roundw
         case rel => exact ⟨q + 1,by omega,by go_num,HO7,HR6⟩
         case measure => simp [intOf];omega
        | some m =>
         have KN := ζ (KT.mono (R' := fun e w' => (∃ b',e = .returned (.map (some b')) ∧ wr.heap.size + 1 ≤ b' ∧ MapE w' b' (4 * k + a.terms.length) fun v => getB v m) ∧ Below (wr.alloc (.cells #[.string f.name,.slice xa f.args.length xc] 27)).heap.size (wr.alloc (.cells #[.string f.name,.slice xa f.args.length xc] 27)) w') fun e w' ⟨h1,h2⟩ => by
          rw [hm] at h2
          obtain ⟨b',h3,h4,h5⟩ := h2
          exact ⟨⟨b',h3,by simpa using h4,h5⟩,h1⟩)
         rw [hm] at HMQ
         clear hm KT hx1 hx2
         go_wp2_with (first
          | (at_builtin;have hh := HO6.out;clear hh;refine wpList_append_one (B := W1.heap.size) (e := 88) (S := New W1) (by rfl) _ _ 129 (by rfl) (REnv.steady (4 * (k + 1))) rowEnvs _ (stepP (ls.take j) a fs ++ meets a l (fs.take q)) (by rfl) (HO6.out.alloc (REnv.steady _) _) w6.heap.size 1 #[.map (some b6)] 88 (0,0) m (by rfl) (heap_new_at rfl) rfl (by simp [Value.oneCell']) (HRM.out _) HNL.out (by have := Below.size HR6.out;simp;omega) ?_;intro v7 w7 hown7 hg7 hat7;have HO7 := ζ hown7;have HR7 := ζ ((HR6.out.alloc (Below.size HR6.out) _).grown hg7 (by have := Below.size HR6.out;simp;omega) (fun g hg => (HRow.out g hg).1));clear hown7 hg7 hat7)
          | (go_at_call 32;refine (KN.out).mono ?_;rintro e w6 ⟨⟨b6,rfl,hb6g,hm6⟩,hb6⟩;have HR6 := ζ (HR3.out.trans (hb6.mono (Below.size HR3.out)));have HO6 := ζ (HO3.out.below (REnv.steady _) hb6);have HRM := ζ (fun o => (show REnv (4 * (k + 1)) (fun b => New W1 b ∧ some b ≠ _) (w6.alloc o) [.map (some b6)] m from ⟨b6,rfl,⟨by show W1.heap.size ≤ b6;omega,fun e => by have := (HRow.out b6 e.symm).2;omega⟩,(hm6.mono (by omega)).alloc o⟩));clear hb6 hm6 hb6g))
         have HO8 := ζ (show Owned 1 (REnv (4 * (k + 1))) W1.heap.size 88 (New W1) w7 _ (stepP (ls.take j) a fs ++ meets a l (fs.take (q + 1))) by
          have h1 := HO7.out
          rw [List.append_assoc] at h1
          rw [HMQ.out];exact h1)
         go_roundw
         case rel => exact ⟨q + 1,by omega,by go_num,HO8,HR7⟩
         case measure => simp [intOf];omega
       ·have HO7 := ζ (show Owned 1 (REnv (4 * (k + 1))) W1.heap.size 88 (New W1) wr _ (stepP (ls.take (j + 1)) a fs) by
         have h1 := HO.out
         rw [List.take_of_length_le (l := fs) (by omega)] at h1
         rw [HSJ.out];exact h1)
        clear HO
        go_wp2
        go_roundw
        case rel => exact ⟨j + 1,by omega,by go_num,HO7,HR⟩
        case measure => simp [intOf];omega
     ·have HO7 := ζ (show Owned 1 (REnv (4 * (k + 1))) W1.heap.size 88 (New W1) wr _ (stepP ls a fs) by
       have h1 := HO.out
       rwa [List.take_of_length_le (l := ls) (by omega)] at h1)
      have HBy := ζ (HBX.out.trans (HR.out.mono (Below.size HBX.out)))
      have HWy := ζ (HWB.out.trans (HR.out.mono (Below.size HWB.out)))
      have hw1 := Below.size HWB.out
      clear HO HEX
      generalize stepP ls a fs = zs at *
      have hro := (HO7.out.read (REnv.steady _)).more (REnv.steady _) (S' := New w) (fun b hb _ => hb.elim (fun h => Nat.le_trans hw1 h) (fun h => Nat.le_trans hw1 h))
      obtain ⟨va,vc,efm,-,-,-⟩ := id hro.form
      subst efm
      have HE7 := ζ hro
      clear hro HO7
      by_cases hov : 20000 < zs.length
      ·have HX := ζ (HGM.out hov)
       have gl : decide ((20000 : Int) < (zs.length : Int)) = true := decide_eq_true (by omega)
       go_wp2
       refine bodyPost_ret (v := .tuple #[.slice none 0 0,.int .i64 4]) (by simp [results,Tryz.results74,go_sem]) rfl ?_
       exact HNone.out _ HX.out HWy.out
      ·have HX := ζ (HGP.out hov)
       have gl : decide ((20000 : Int) < (zs.length : Int)) = false := decide_eq_false (by omega)
       go_wp2
       go_roundw
       case rel => exact ⟨k + 1,zs,_,_,by omega,by go_num,rfl,by omega,HE7,HBy,HX⟩
       case measure => simp [intOf];omega
  ·have HGG := ζ (show goP pick 0 [[]] body = some ls by rw [HG.out,List.drop_eq_nil_of_le (by omega)];rfl)
   have HFL := ζ (HGF.out ls HGG.out)
   have HE2 := ζ (RdEnvs.mono (show 4 * k ≤ 20 by omega) HE.out)
   obtain ⟨wo,hwo⟩ : ∃ wo : World,wo = wr := ⟨_,rfl⟩
   subst hwo
   have HO0 := ζ (show Owned 1 (REnv 20) wo.heap.size 88 (New w) wo (.slice none 0 0) ((ls.take 0).filter (goodP pick 0 body)) from Owned.nil)
   have HR0 := ζ (ζb wo.heap.size wo)
   have hswo := Below.size HBw.out
   clear HG HE HGF HNone
   go_wp2
   go_loopw [73,20] (fun i v wx => ∃ (j : Nat),j ≤ ls.length ∧ i = .int .i64 j ∧ Hid (Owned 1 (REnv 20) wo.heap.size 88 (New w) wx v ((ls.take j).filter (goodP pick 0 body))) ∧ Hid (Below wo.heap.size wo wx)) (fun i _ _ => ls.length - (intOf i).toNat)
   case atStart => exact ⟨0,Nat.zero_le _,rfl,HO0,HR0⟩
   case round =>
    clear HO0 HR0
    obtain ⟨j,hj,rfl,HO,HR⟩ := hrel
    by_cases hlj : j < ls.length
    ·obtain ⟨l,hl⟩ : ∃ l,ls[j]? = some l := ⟨_,ζe hlj⟩
     obtain ⟨b2,o2,mb,rfl,-,hb2,c2',hSm,hM2⟩ := RdEnvs.at HE2.out hl
     have c2 := (ζl HR.out hb2 (o2 + j)).trans c2'
     have HM := ζ hM2
     have hlm := ζm hl
     have HSJ := ζ (show (ls.take (j + 1)).filter (goodP pick 0 body) = (ls.take j).filter (goodP pick 0 body) ++ if goodP pick 0 body l then [l] else [] by
      rw [List.take_add_one,hl,List.filter_append];simp [List.filter_cons])
     obtain ⟨wp,hwp⟩ : ∃ wp : World,wp = wr := ⟨_,rfl⟩
     subst hwp
     have HR1 := ζ (ζb wp.heap.size wp)
     have HG1 := ζ (show true = goodP pick 0 (body.take 0) l from rfl)
     have HBp := ζ (HBw.out.trans (HR.out.mono hswo))
     have HCp := ζ (HBW.out.trans (HR.out.mono hsz))
     have hsp := Below.size HR.out
     clear hl hM2 c2'
     go_wp2
     clear c2
     go_loopw [79,23] (fun i g wx => ∃ (q : Nat) (gb : Bool),q ≤ body.length ∧ i = .int .i64 q ∧ g = .bool gb ∧ Hid (gb = goodP pick 0 (body.take q) l) ∧ Hid (Below wp.heap.size wp wx)) (fun i _ _ => body.length - (intOf i).toNat)
     case atStart => exact ⟨0,true,Nat.zero_le _,rfl,rfl,HG1,HR1⟩
     case round =>
      clear HR1 HG1
      obtain ⟨q,gb,hq,rfl,rfl,HG,HRQ⟩ := hrel
      have hsq := Below.size HRQ.out
      by_cases hlq : q < body.length
      ·obtain ⟨a,hx⟩ : ∃ a,body[q]? = some a := ⟨_,ζe hlq⟩
       have HWq := ζ (HBp.out.trans (HRQ.out.mono (Below.size HBp.out)))
       have HCq := ζ (HCp.out.trans (HRQ.out.mono (Nat.le_trans hsz hsp)))
       obtain ⟨b4,o4,yv,rfl,-,-,e0,e1,e2,hyv⟩ := RdAtoms.at (HB.out.up HWq.out) hx
       obtain ⟨ya,yc,rfl,-,-,-⟩ := id hyv.form
       have ham := ζm hx
       have hat4 := HT4.out a ham
       have HA1 := ζ (B1.out a ham)
       have HSN := ζ (show goodP pick 0 (body.take (q + 1)) l = (gb && !(a.neg && hitP a (pick q) l)) by
        rw [HG.out,List.take_add_one,hx]
        have h1 := goodP_snoc pick a l (body.take q) 0
        rw [show 0 + (body.take q).length = q by rw [List.length_take];omega] at h1
        exact h1)
       have HR3 := ζ (HRQ.out.alloc hsq (.cells #[.bool a.neg,.string a.name,.slice ya a.terms.length yc] 78))
       have HFA := ζ (HFL.out l hlm a ham)
       have HYV := ζ hyv
       clear hx hyv HG ham
       cases hn : a.neg
       case false =>
        rw [hn] at e0 HR3 HSN
        have HG2 := ζ (show gb = goodP pick 0 (body.take (q + 1)) l by rw [HSN.out];simp)
        clear hn
        go_wp2
        go_roundw
        case rel => exact ⟨q + 1,gb,by omega,by go_num,rfl,HG2,HR3⟩
        case measure => simp [intOf];omega
       case true =>
        cases gb
        case false =>
         rw [hn] at e0 HR3 HSN
         have HG2 := ζ (show false = goodP pick 0 (body.take (q + 1)) l by rw [HSN.out];rfl)
         clear hn
         go_wp2
         go_roundw
         case rel => exact ⟨q + 1,false,by omega,by go_num,rfl,HG2,HR3⟩
         case measure => simp [intOf];omega
        case true =>
         obtain ⟨f,hff⟩ := HFA.out
         obtain ⟨pa,pc,hpe,hpr,hpl,hps⟩ := HPK.out q
         have KP1 := ζ (KP.out q pa pc hpe)
         have HPR := ζ hpr
         have HPS := ζ hps
         have hfal : f.args.length ≤ 4 := by have := fillArgs_len (fillP_name hff).2;omega
         have HG2 := ζ (show (!memF f (pick q)) = goodP pick 0 (body.take (q + 1)) l by
          rw [HSN.out,hn]
          have : hitP a (pick q) l = memF f (pick q) := by unfold hitP;rw [hff]
          rw [this];rfl)
         have KF := fillRef a (.slice ya a.terms.length yc) l mb 20 (wr.alloc (.cells #[.bool a.neg,.string a.name,.slice ya a.terms.length yc] 78)) (HYV.out.up ((ζb _ _).alloc (ζn _) _)) (((HM.out.below HR.out HM.out.lt).below HRQ.out (Nat.lt_of_lt_of_le HM.out.lt hsp)).alloc _) (by omega) HA1.out
         have KN := ζ (KF.mono (R' := fun e w' => (∃ v,e = .returned (.tuple #[.agg #[.string f.name,v],.bool true]) ∧ RdStrs (fun _ => True) w' v f.args) ∧ Below (wr.alloc (.cells #[.bool a.neg,.string a.name,.slice ya a.terms.length yc] 78)).heap.size (wr.alloc (.cells #[.bool a.neg,.string a.name,.slice ya a.terms.length yc] 78)) w') fun e w' ⟨h1,h2⟩ => by
          rw [hff] at h2
          obtain ⟨v,h3,h4⟩ := h2
          exact ⟨⟨v,h3,h4.more ζS (fun _ _ _ => trivial)⟩,h1⟩)
         rw [hn] at e0 HR3 HSN KN
         clear hn KF hff hpe hpr hps HFA HSN
         generalize hpk : pick q = fs at *
         clear hpk
         go_wp2_with (go_at_call 33;refine (KN.out).mono ?_;rintro e w6 ⟨⟨v6,rfl,hr6⟩,hb6⟩;obtain ⟨ga,gc,rfl,-,-,-⟩ := id hr6.form;have HR6 := ζ (HR3.out.trans (hb6.mono (Below.size HR3.out)));have HV6 := ζ hr6;clear hb6 hr6)
         obtain ⟨W7,hW7⟩ : ∃ W7 : World,w6.alloc (.cells #[.string f.name,.slice ga f.args.length gc] 27) = W7 := ⟨_,rfl⟩
         have HK7 : Hid (Blk W7.drew w6.heap.size 27 #[.string f.name,.slice ga f.args.length gc]) := ζ (by subst hW7;exact (Blk.new w6 _ _).drew)
         have HR7 : Hid (Below wp.heap.size wp W7.drew) := ζ (by subst hW7;exact (HR6.out.alloc (Below.size HR6.out) _).drew)
         have HV7 : Hid (RdStrs (fun _ => True) W7.drew (.slice ga f.args.length gc) f.args) := ζ (by subst hW7;exact HV6.out.agree ζS (((Agree.refl _ _).alloc _).drew))
         have HC7 := ζ (HCp.out.trans (HR7.out.mono (Nat.le_trans hsz hsp)))
         have HW7 := ζ (HBp.out.trans (HR7.out.mono (Below.size HBp.out)))
         have a0 := HK7.out.cell 0;have a1 := HK7.out.cell 1
         simp only [ζc] at a0 a1
         clear HR3 HR6 HV6
         rw [hW7]
         clear hW7
         go_region_held3 (fun w' => w'.cell? ⟨w6.heap.size,0,none⟩ = some (.string f.name) ∧ w'.cell? ⟨w6.heap.size,1,none⟩ = some (.slice ga f.args.length gc))
          (first | (with_reducible exact ⟨a0,a1⟩) | (with_reducible exact ⟨x0,x1⟩) | go_keep)
          (first
           | (go_at_call 26;have hh := HP7.out;clear hh;refine (inRef (.slice pa fs.length pc) fs f (.slice ga f.args.length gc) _ (HPR.out.up HW7.out) HV7.out (by omega) (fun x hx => by have := (HPS.out x hx).1;omega) (by omega)).mono ?_;rintro e w8 ⟨rfl,hf8⟩;have HR8 := ζ (HR7.out.trans (hf8.below.mono (Below.size HR7.out)));have hk8 := HK7.out.below hf8.below HK7.out.lt;have x0 := hk8.cell 0;have x1 := hk8.cell 1;simp only [ζc] at x0 x1;clear hf8 hk8)
           | (go_at_call 95;refine (KP1.out _ HC7.out).mono ?_;rintro e w7 ⟨rfl,rfl⟩;have HP7 := ζ True.intro))
         all_goals
          go_wp2
          go_roundw
          case rel => exact ⟨q + 1,!memF f fs,by omega,by go_num,rfl,HG2,HR8⟩
          case measure => simp [intOf];omega
      ·have HGE := ζ (show gb = goodP pick 0 body l by have := HG.out;rwa [List.take_of_length_le (by omega)] at this)
       have HOq := ζ (HO.out.below (REnv.steady _) HRQ.out)
       have HRq := ζ (HR.out.trans (HRQ.out.mono hsp))
       have hsoq := Below.size HRq.out
       have HMq := ζ ((HM.out.below HR.out HM.out.lt).below HRQ.out (Nat.lt_of_lt_of_le HM.out.lt hsp))
       rw [← HGE.out] at HSJ
       clear HG HGE HO
       cases gb
       ·have HO2 := ζ (show Owned 1 (REnv 20) wo.heap.size 88 (New w) wr _ ((ls.take (j + 1)).filter (goodP pick 0 body)) by
         rw [HSJ.out,if_neg (by simp),List.append_nil];exact HOq.out)
        clear HOq HSJ
        go_wp2
        go_roundw
        case rel => exact ⟨j + 1,by omega,by go_num,HO2,HRq⟩
        case measure => simp [intOf];omega
       ·have HNL := ζ (show ((ls.take j).filter (goodP pick 0 body)).length < 1099511627776 by
         have h1 := List.length_filter_le (goodP pick 0 body) (ls.take j)
         rw [List.length_take] at h1;omega)
        have HRow := ζ (fun g h => (HOq.out.row_lt (g := g) h))
        have hml := HM.out.lt
        have HRM := ζ (fun o => (show REnv 20 (fun b => New w b ∧ some b ≠ _) (wr.alloc o) [.map (some mb)] l from ⟨mb,rfl,⟨hSm,fun e => by have := (HRow.out mb e.symm).1;omega⟩,HMq.out.alloc o⟩))
        go_wp2_with (at_builtin;refine wpList_append_one (B := wo.heap.size) (e := 88) (S := New w) (by rfl) _ _ 129 (by rfl) (REnv.steady 20) rowEnvs _ ((ls.take j).filter (goodP pick 0 body)) (by rfl) (HOq.out.alloc (REnv.steady _) _) wr.heap.size 1 #[.map (some mb)] 88 (0,0) l (by rfl) (heap_new_at rfl) rfl (by simp [Value.oneCell']) (HRM.out _) HNL.out (by simp;omega) ?_;intro v7 w7 hown7 hg7 hat7;have HO7 := ζ hown7;have HR7 := ζ ((HRq.out.alloc hsoq _).grown hg7 (by simp;omega) (fun g hg => (HRow.out g hg).1));clear hown7 hg7 hat7)
        have HO8 := ζ (show Owned 1 (REnv 20) wo.heap.size 88 (New w) w7 _ ((ls.take (j + 1)).filter (goodP pick 0 body)) by
         rw [HSJ.out,if_pos rfl];exact HO7.out)
        go_roundw
        case rel => exact ⟨j + 1,by omega,by go_num,HO8,HR7⟩
        case measure => simp [intOf];omega
    ·have HO7 := ζ (show Owned 1 (REnv 20) wo.heap.size 88 (New w) wr _ (ls.filter (goodP pick 0 body)) by
      have h1 := HO.out
      rwa [List.take_of_length_le (l := ls) (by omega)] at h1)
     have HWy := ζ (HBw.out.trans (HR.out.mono hswo))
     obtain ⟨o,ho⟩ : ∃ o,ls.filter (goodP pick 0 body) = o := ⟨_,rfl⟩
     rw [ho] at HO7
     have hro := (HO7.out.read (REnv.steady _)).more (REnv.steady _) (S' := New w) (fun b hb _ => hb.elim id (fun h => Nat.le_trans hswo h))
     obtain ⟨va,vc,efm,-,-,-⟩ := id hro.form
     subst efm
     have HX := ζ (HSome.out wr ls o va vc HGG.out HWy.out ho hro)
     clear hro HO7 HO ho
     go_wp2
     refine bodyPost_ret (v := .tuple #[.slice va o.length vc,.int .i64 0]) (by simp [results,Tryz.results74,go_sem]) rfl ?_
     exact HX.out
end
end Go.Proofs.YtdngkcieckejoaaGreat
