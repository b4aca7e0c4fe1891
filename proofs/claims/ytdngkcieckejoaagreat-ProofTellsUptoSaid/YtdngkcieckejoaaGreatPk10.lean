/-
  THE TEXTS Clone, FactSort, FactCompact, Sets, Less, CheckW3, one behind the other.
-/
import Derived.Test.YtdngkcieckejoaaGreatPk2
import Derived.Test.YtdngkcieckejoaaGreatPk3
import Derived.Test.YtdngkcieckejoaaGreatPk4
import Derived.Test.YtdngkcieckejoaaGreatPk6
import Derived.Test.YtdngkcieckejoaaGreatPk7
import Derived.Test.YtdngkcieckejoaaGreatPk8
import Derived.Lib.AppendZerosOnto
import Derived.Deep.DeepCutAuto
import Derived.Deep.RegionLaw
namespace Go.Proofs.YtdngkcieckejoaaGreat
section
open Go.RowKit
theorem rowFacts : RowT Tryz.prog 24 27 2 := RowT.mk' (b := 40) (z := .agg #[.string ⟨#[]⟩,.slice none 0 0]) Tryz.underlying24 (by kernel_rfl) (by omega) rfl (by omega)
set_option maxHeartbeats 0 in
theorem cloneStr {S : Nat → Prop} (v : Value) (l : List Str) (w : World) (h : RdStrs S w v l) (n1 : l.length ≤ 1073741824) :
 Calls Tryz.prog 40 #[v] w fun e w' => (∃ v',e = .returned v' ∧ RdStrs (New w) w' v' l) ∧ Below w.heap.size w w' := by
 obtain ⟨a,c,rfl,-,-,hnil⟩ := id h.form
 have heq := fun (w : World) (n c n' c' : Nat) => Lib.run_eql_slice_nil (P := Tryz.prog) w 25 9 a n c n' c' Tryz.underlying25
 cases a with
 | none =>
  have hl : l = [] := by
   cases l with
   | nil => rfl
   | cons x r =>
    obtain ⟨b,o,ha,_⟩ := h.at (i := 0) (x := x) rfl
    cases ha
  subst hl
  obtain rfl := hnil rfl
  clear h hnil
  go_enter Tryz.func40,Tryz.ntmps40
  go_wp2
  go_ret
  exact ⟨⟨_,rfl,(Owned.nil (B := w.heap.size) (e := 0) (S := fun _ => False) (R := RStr)).read ζS |>.more ζS (fun b hb _ => hb.elim False.elim id)⟩,ζb _ _⟩
 | some ad =>
  clear hnil
  have H := ζ h
  clear h
  go_enter Tryz.func40,Tryz.ntmps40
  go_wp2_with (at_builtin;refine wpList_append_many (B := w.heap.size) (e := 9) (S := fun _ => False) (by rfl) _ _ 25 (by rfl) ζS RStr.one rowStrs _ [] (by rfl) (Owned.made (w := w) (cur := #[]) (cap := 0) (ζn _) (Nat.zero_le _) rfl) _ l (by rfl) (H.out.agree ζS (Agree.alloc (Agree.refl _ _) _)) (fun _ _ h => h) ?hl ?hb ?_)
  case hl => simp;omega
  case hb => simp
  ·intro v' w' hown hg hat
   try rw [List.nil_append] at hown
   have hown' := ζ hown
   have hg' := ζ hg
   clear hown hg hat
   go_wp2
   go_ret
   refine ⟨⟨_,rfl,(hown'.out.read ζS).more ζS (fun b hb _ => hb.elim False.elim id)⟩,?_⟩
   exact (((ζb _ _).alloc (ζn _) _).grown hg'.out (by simp) (fun k hk => by cases hk;exact ζn _))
theorem RFact.fresh {B : Nat} {w W1 w1 w2 : World} {v v1 : Value} {l : List PFact} {x : PFact} (hown : Owned 2 RFact B 27 (fun b => B ≤ b) w v l) (hB : B ≤ w.heap.size) (hle : w.heap.size ≤ W1.heap.size) (hr1 : RdStrs (New W1) w1 v1 x.args) (ha : Agree (New W1) w1 w2) :
 RFact (fun b => B ≤ b ∧ some b ≠ v.ownBlock) w2 [.string x.name,v1] x :=
 ⟨v1,rfl,(hr1.agree ζS ha).more ζS fun b hb _ => ⟨by omega,fun e => by have := (hown.row_lt e.symm).2;omega⟩⟩
attribute [local go_sem ↓] Go.wp_at_zero Go.wp_at_succ
set_option maxRecDepth 100000 in
set_option maxHeartbeats 0 in
theorem ownCalls {S : Nat → Prop} (v : Value) (l : List PFact) (w : World) (h : RdFacts S w v l) (n1 : l.length ≤ 1073741824) (n2 : ∀ x ∈ l,x.args.length ≤ 1073741824) :
 Calls Tryz.prog 18 #[v] w fun e w' => (∃ v',e = .returned v' ∧ Owned 2 RFact w.heap.size 27 (New w) w' v' l) ∧ Below w.heap.size w w' := by
 obtain ⟨a,c,rfl,-,-,-⟩ := id h.form
 have H := ζ h
 have N2 := ζ n2
 clear h n2
 go_enter Tryz.func18,Tryz.ntmps18
 go_wp2
 go_loopw [8,3] (fun i v wr => ∃ k : Nat,k ≤ l.length ∧ i = .int .i64 k ∧ Owned 2 RFact w.heap.size 27 (New w) wr v (l.take k) ∧ Below w.heap.size w wr) (fun i _ _ => l.length - (intOf i).toNat)
 case atStart => exact ⟨0,Nat.zero_le _,rfl,Owned.nil,ζb _ _⟩
 case round =>
  obtain ⟨k,hk,rfl,hown,hb⟩ := hrel
  by_cases hlt : k < l.length
  ·obtain ⟨x,hx⟩ : ∃ x,l[k]? = some x := ⟨_,ζe hlt⟩
   have hn2 : x.args.length ≤ 1073741824 := N2.out x (ζm hx)
   obtain ⟨b1,o1,av,rfl,-,-,hc1,hc2,hav⟩ := RdFacts.at (H.out.agree ζF (Below.agree hb)) hx
   obtain ⟨aa,ac,rfl,-,-,-⟩ := id hav.form
   have htk : l.take (k + 1) = l.take k ++ [x] := by rw [List.take_add_one,hx];rfl
   have HT := ζ htk
   have hsz := hb.size
   have HB := ζ hb
   have HO := ζ hown
   have HA := ζ hav
   have hlk : (l.take k).length = k := by rw [List.length_take];omega
   have HL := ζ hlk
   clear hb hown hav hx htk hlk
   go_wp2_with fail
   go_region_held3 (fun w' => w'.cell? ⟨wr.heap.size,0,none⟩ = some (.string x.name) ∧ w'.cell? ⟨wr.heap.size,1,none⟩ = some (.slice aa x.args.length ac))
    (first
     | (refine ⟨?_,?_⟩ <;> (rw [hk2];simp))
     | (refine ⟨?_,?_⟩ <;> (rw [hb1.cell (by simp)];simp))
     | go_keep)
    (first
     | (go_at_call 40;refine (cloneStr _ x.args _ (HA.out.agree ζS (((Agree.refl _ _).alloc _).drew)) hn2).mono ?_;rintro e w1 ⟨⟨v1,rfl,hr1⟩,hb1⟩;obtain ⟨a1,c1,rfl,-,-,-⟩ := id hr1.form)
     | (refine step_append_one (by rfl) _ _ 24 (by rfl) ζF rowFacts _ (l.take k) (by rfl) ((((HO.out.alloc ζF _).drew ζF).below ζF hb1).alloc ζF _) _ 1 #[.string x.name,.slice a1 x.args.length c1] 27 (0,0) x (by rfl) (heap_alloc_new _ _) rfl (by simp [Value.oneCell']) (RFact.fresh HO.out hsz (by simp) hr1 ((Agree.refl _ _).alloc _)) (by rw [HL.out];omega) (by have := hb1.size;simp at this ⊢;omega) ?_;intro v2 w2 hown2 hg2 hat2;have hk2 := fun off => kept_cell (c := wr.heap.size) hb1 hg2 (by simp) (fun e => by have := (HO.out.row_lt e).2;omega) off))
   rw [← HT.out] at hown2
   have hB2 : Below w.heap.size w w2 := ((((HB.out.alloc hsz _).drew.trans (hb1.mono (by simp;omega))).alloc (by have := hb1.size;simp at this ⊢;omega) _).grown hg2 (by have := hb1.size;simp at this ⊢;omega) (fun q hq => (HO.out.row_lt hq).1))
   have HO2 := ζ hown2
   have HB2 := ζ hB2
   clear hown2 hB2 hg2 hat2 hk2 hb1 hr1
   go_wp2
   go_roundw
   case rel => exact ⟨k + 1,by omega,by go_num,HO2.out,HB2.out⟩
   case measure => simp [intOf];omega
  ·have htk : l.take k = l := List.take_of_length_le (by omega)
   rw [htk] at hown
   have HO := ζ hown
   have HB := ζ hb
   clear hown hb htk
   go_wp2
   go_ret
   exact ⟨⟨_,rfl,HO.out⟩,HB.out⟩
end
section
open Go.RowKit Go.Shelf Go.Sort
theorem enterCompare : ∀ args w,(callFunc 39 args).run Tryz.prog w = .ok (.enter 39 args) w := enters_of Tryz.func39 (by kernel_rfl) rfl
theorem sortFacts {B : Nat} {S : Nat → Prop} {w : World} {v : Value} {l : List PFact} (hown : Owned 2 RFact B 27 S w v l) (n1 : l.length ≤ 1073741824) (n2 : ∀ x ∈ l,x.args.length ≤ 1073741824) :
 Calls Tryz.prog 84 #[v,.func (.func 39) #[] #[]] w fun en w' => en = .returned (.tuple #[]) ∧ ∃ l',l'.Perm l ∧ l'.Pairwise (fun a b => ¬ cmpFact b a < 0) ∧ Owned 2 RFact B 27 S w' v l' ∧ w.grownBy w' v.ownBlock :=
 sort_owned Tryz.sortFact ζF RFact.one (fun x => x.args.length ≤ 1073741824) Tryz.isAgg27 Tryz.sizeOf27 cmpFact3 39 enterCompare
  (fun W x y cx cy hx hy qx _ => by
   obtain ⟨vx,rfl,rx⟩ := hx
   obtain ⟨vy,rfl,ry⟩ := hy
   exact compareFact x y vx vy W rx ry qx)
  hown n2 (by omega)
end
section
open Go.RowKit
theorem eqFact {S T : Nat → Prop} (f g : PFact) (va vb : Value) (w : World) (h1 : RdStrs S w va f.args) (h2 : RdStrs T w vb g.args) (n1 : f.args.length ≤ 1073741824) :
 Calls Tryz.prog 86 #[.agg #[.string f.name,va],.agg #[.string g.name,vb]] w fun e w' => e = .returned (.bool (decide (f = g))) ∧ Fresh w w' := by
 obtain ⟨a1,c1,rfl,-,-,-⟩ := id h1.form
 obtain ⟨a2,c2,rfl,-,-,-⟩ := id h2.form
 have K := ζ (fun W (ha : Agree (fun _ => True) w W) => compareFact f g _ _ W ((h1.more ζS (fun _ _ _ => trivial)).agree ζS ha) ((h2.more ζS (fun _ _ _ => trivial)).agree ζS ha) n1)
 have e : decide (f = g) = (cmpFact f g == 0) := by rw [Bool.eq_iff_iff,decide_eq_true_eq,beq_iff_eq,cmpFact3.zero]
 have HE := ζ e
 clear h1 h2 e
 generalize cmpFact f g = q at *
 go_enter Tryz.func86,Tryz.ntmps86
 go_wp2_with (go_at_call 39;refine (K.out _ (((Agree.refl _ _).alloc _).alloc _)).mono ?_;rintro e w1 ⟨rfl,hf1⟩)
 go_ret
 exact ⟨ret_bool HE.out.symm,(((Fresh.refl _).alloc _).alloc _).trans hf1⟩
theorem flatten_take {k : Nat} : ∀ (css : List (List Value)),(∀ cs ∈ css,cs.length = k) → ∀ i,css.flatten.take (i * k) = (css.take i).flatten
 | [],_,i => by simp
 | c :: css,hk,0 => by simp
 | c :: css,hk,i + 1 => by
  have hc : c.length = k := hk c (by simp)
  rw [List.flatten_cons,List.take_succ_cons,List.flatten_cons,List.take_append,hc,List.take_of_length_le (by rw [hc,Nat.add_mul];omega),show (i + 1) * k - k = i * k by rw [Nat.add_mul];omega,flatten_take css (fun c hc => hk c (by simp [hc])) i]
def HalfRow (w : World) (S : Nat → Prop) (g n cap i p : Nat) (B : Nat) (css : List (List Value)) (acc l : List PFact) : Prop :=
 css.length = n ∧ (∀ cs ∈ css,cs.length = 2) ∧ w.ownsRow B 27 2 (.slice (some ⟨g,0,none⟩) n cap) n css.flatten ∧ acc.length = i ∧ i ≤ p ∧
 (∀ q cs x,q < i → css[q]? = some cs → acc[q]? = some x → RFact (fun b => S b ∧ b ≠ g) w cs x) ∧ (∀ q cs x,p ≤ q → css[q]? = some cs → l[q]? = some x → RFact (fun b => S b ∧ b ≠ g) w cs x)
theorem HalfRow.fresh {w w' : World} {S : Nat → Prop} {g n cap i p B : Nat} {css : List (List Value)} {acc l : List PFact} (h : HalfRow w S g n cap i p B css acc l) (hb : Below w.heap.size w w') : HalfRow w' S g n cap i p B css acc l := by
 obtain ⟨h1,h2,h3,h4,h5,h6,h7⟩ := h
 have hg : w.grownBy w' none := ⟨hb.os,hb.tape,hb.output,hb.size,fun k hk _ => hb.block k hk⟩
 exact ⟨h1,h2,h3.kept hg (.inr (by simp [Value.ownBlock])),h4,h5,fun q cs x a b c => RFact.steady.agree (Below.agree hb) (h6 q cs x a b c),fun q cs x a b c => RFact.steady.agree (Below.agree hb) (h7 q cs x a b c)⟩
theorem HalfRow.cellsAt {w : World} {S : Nat → Prop} {g n cap i p B : Nat} {css : List (List Value)} {acc l : List PFact} (h : HalfRow w S g n cap i p B css acc l) {q : Nat} {x : PFact} (hq : p ≤ q) (hx : l[q]? = some x) (hl : l.length = n) :
 ∃ av,css[q]? = some [.string x.name,av] ∧ RdStrs (fun b => S b ∧ b ≠ g) w av x.args ∧ w.cell? ⟨g,q * 2,none⟩ = some (.string x.name) ∧ w.cell? ⟨g,q * 2 + 1,none⟩ = some av := by
 obtain ⟨h1,h2,h3,h4,h5,h6,h7⟩ := h
 have hqn : q < n := by rw [← hl];exact (List.getElem?_eq_some_iff.1 hx).1
 have hcs : css[q]? = some css[q] := ζe (by omega)
 obtain ⟨av,hc,hr⟩ := h7 q _ x hq hcs hx
 rw [hc] at hcs
 have a0 := flatten_get css h2 q _ 0 _ hcs rfl
 have a1 := flatten_get css h2 q _ 1 _ hcs rfl
 exact ⟨av,hcs,hr,by rw [h3.cellAt _ (by omega)];exact a0,by rw [h3.cellAt _ (by omega)];exact a1⟩
theorem HalfRow.put {w : World} {S : Nat → Prop} {g n cap i p B : Nat} {css : List (List Value)} {acc l : List PFact} (h : HalfRow w S g n cap i p B css acc l) {y : PFact} {c0 c1 : Value} (hy : l[p + 1]? = some y) (hc : css[p + 1]? = some [c0,c1]) :
 HalfRow ((w.setCell ⟨g,i * 2,none⟩ c0).setCell ⟨g,i * 2 + 1,none⟩ c1) S g n cap (i + 1) (p + 1) B (css.set i [c0,c1]) (acc ++ [y]) l := by
 obtain ⟨h1,h2,h3,h4,h5,h6,h7⟩ := h
 have hp1 : p + 1 < css.length := (List.getElem?_eq_some_iff.1 hc).1
 have hag : Agree (fun b => S b ∧ b ≠ g) w ((w.setCell ⟨g,i * 2,none⟩ c0).setCell ⟨g,i * 2 + 1,none⟩ c1) :=
  ⟨by simp [World.setCell],fun b hb _ => (Below.heap_setCell _ _ _ _ hb.2).trans (Below.heap_setCell _ _ _ _ hb.2)⟩
 refine ⟨by simp [h1],?_,?_,by simp [h4],by omega,?_,?_⟩
 ·intro cs hcs
  rcases List.mem_or_eq_of_mem_set hcs with hcs | rfl
  ·exact h2 cs hcs
  ·rfl
 ·rw [← flatten_set2 css h2 i c0 c1 (by omega)]
  exact ((h3.stored _ _).1.stored _ _).1
 ·intro q cs x hq hcs hx
  by_cases e : q = i
  ·subst e
   rw [List.getElem?_set_self (by omega)] at hcs
   rw [List.getElem?_append_right (by omega),h4,Nat.sub_self] at hx
   obtain rfl : [c0,c1] = cs := Option.some.inj hcs
   obtain rfl : y = x := by simpa using hx
   exact RFact.steady.agree hag (h7 (p + 1) _ y (by omega) hc hy)
  ·rw [List.getElem?_set_ne (Ne.symm e)] at hcs
   rw [List.getElem?_append_left (by omega)] at hx
   exact RFact.steady.agree hag (h6 q cs x (by omega) hcs hx)
 ·intro q cs x hq hcs hx
  rw [List.getElem?_set_ne (by omega)] at hcs
  exact RFact.steady.agree hag (h7 q cs x (by omega) hcs hx)
theorem HalfRow.start {w : World} {S : Nat → Prop} {g n cap B : Nat} {l : List PFact} (h : Owned 2 RFact B 27 S w (.slice (some ⟨g,0,none⟩) n cap) l) (hl : l.length = n) {i : Nat} (hi : i ≤ n) (h1 : 1 ≤ i) :
 ∃ css,HalfRow w S g n cap i (i - 1 + 1) B css (l.take i) l := by
 obtain ⟨css,q1,q2,q3,q4⟩ := h
 rw [hl] at q3 q1
 have hm : ∀ {cs x},RFact (fun b => S b ∧ some b ≠ (Value.slice (some ⟨g,0,none⟩) n cap).ownBlock) w cs x → RFact (fun b => S b ∧ b ≠ g) w cs x := fun hr => RFact.steady.more (fun b hb _ => ⟨hb.1,fun e => hb.2 (by rw [e];rfl)⟩) hr
 refine ⟨css,q1,q2,q3,by rw [List.length_take];omega,by omega,?_,fun q cs x _ hcs hx => hm (q4 q cs x hcs hx)⟩
 intro q cs x hq hcs hx
 rw [List.getElem?_take_of_lt hq] at hx
 exact hm (q4 q cs x hcs hx)
theorem Below.grownBy {w w' : World} (hb : Below w.heap.size w w') (row : Option Nat) : w.grownBy w' row := ⟨hb.os,hb.tape,hb.output,hb.size,fun k hk _ => hb.block k hk⟩
theorem HalfRow.spot {w : World} {S : Nat → Prop} {g n cap i p B : Nat} {css : List (List Value)} {acc l : List PFact} (h : HalfRow w S g n cap i p B css acc l) (hi : i < n) (u : Value) :
 ∃ d0 d1,w.cell? ⟨g,i * 2,none⟩ = some d0 ∧ w.frozen? ⟨g,i * 2,none⟩ = false ∧ w.cell? ⟨g,i * 2 + 1,none⟩ = some d1 ∧ (w.setCell ⟨g,i * 2,none⟩ u).cell? ⟨g,i * 2 + 1,none⟩ = some d1 ∧ (w.setCell ⟨g,i * 2,none⟩ u).frozen? ⟨g,i * 2 + 1,none⟩ = false ∧ w.frozen? ⟨g,i * 2 + 1,none⟩ = false := by
 have ho := h.2.2.1
 have hl : css.flatten.length = n * 2 := ho.1
 have e1 : i * 2 + 1 < n * 2 := by omega
 have c1 : w.cell? ⟨g,i * 2 + 1,none⟩ = some (css.flatten[i * 2 + 1]'(by omega)) := by rw [ho.cellAt _ e1];exact ζe _
 refine ⟨_,_,by rw [ho.cellAt _ (by omega)];exact ζe (by omega),ho.frozenAt _,c1,?_,(ho.stored _ _).1.frozenAt _,ho.frozenAt _⟩
 rw [(ho.stored _ _).1.cellAt _ e1,List.getElem?_set_ne (by omega)]
 exact ζe _
theorem HalfRow.shut {w w' : World} {S : Nat → Prop} {g n cap i p B : Nat} {css : List (List Value)} {acc l : List PFact} (h : HalfRow w S g n cap i p B css acc l) (hi : i ≤ n)
 (ho : w'.ownsRow B 27 2 (.slice (some ⟨g,0,none⟩) i cap) i (css.flatten.take (i * 2))) (hg : w.grownBy w' (some g)) : Owned 2 RFact B 27 S w' (.slice (some ⟨g,0,none⟩) i cap) acc := by
 obtain ⟨h1,h2,h3,h4,h5,h6,h7⟩ := h
 have hfl : css.flatten.take (i * 2) = (css.take i).flatten := by
  rw [flatten_take css h2 i]
 rw [hfl] at ho
 refine ⟨css.take i,by rw [List.length_take];omega,fun cs hcs => h2 cs (List.mem_of_mem_take hcs),by rw [h4];exact ho,fun q cs x hcs hx => ?_⟩
 have hq : q < i := by have := (List.getElem?_eq_some_iff.1 hx).1;omega
 rw [List.getElem?_take_of_lt hq] at hcs
 have r := RFact.steady.agree (w' := w') ⟨hg.size,fun b hb hlt => hg.block b hlt (fun e => hb.2 (Option.some.inj e))⟩ (h6 q cs x hq hcs hx)
 exact RFact.steady.more (fun b hb _ => ⟨hb.1,fun e => hb.2 (Option.some.inj e)⟩) r
attribute [local go_sem ↓] Go.wp_at_zero Go.wp_at_succ
set_option maxRecDepth 100000 in
set_option maxHeartbeats 0 in
theorem compactFacts {B : Nat} {S : Nat → Prop} {w : World} {v : Value} {l : List PFact} (hown : Owned 2 RFact B 27 S w v l) (n1 : l.length ≤ 1073741824) (n2 : ∀ x ∈ l,x.args.length ≤ 1073741824) :
 Calls Tryz.prog 85 #[v,.func (.func 86) #[] #[]] w fun en w' => (∃ v',en = .returned v' ∧ Owned 2 RFact B 27 S w' v' (compactL l)) ∧ w.grownBy w' v.ownBlock := by
 by_cases hl2 : l.length < 2
 ·have hc : compactL l = l := by
   match l,hl2 with
   | [],_ => rfl
   | [x],_ => rfl
  rw [hc]
  obtain ⟨a,c,rfl,-,-,-⟩ := id (hown.read ζF).form
  have HO := ζ hown
  clear hown
  go_enter Tryz.func85,Tryz.ntmps85
  go_wp2
  go_ret
  exact ⟨⟨_,rfl,HO.out⟩,⟨rfl,rfl,rfl,ζn _,fun _ _ _ => rfl⟩⟩
 ·have hO := hown
  obtain ⟨css0,-,-,ho,-⟩ := hown
  rcases ho.2 with ⟨_,h0⟩ | ⟨g,cap,cur,rfl,hgB,-,hcap,hcm,-,-⟩
  ·omega
  ·have HO := ζ hO
   have N2 := ζ n2
   clear hO ho n2
   have hcm' : cap ≤ 9223372036854775807 := by unfold maxLen at hcm;omega
   obtain ⟨n,hn⟩ : ∃ n,l.length = n := ⟨_,rfl⟩
   rw [hn] at hl2 n1 hcap HO ⊢
   have HN := ζ hn
   clear hn
   have hl2' : decide ((n : Int) < 2) = false := by simp;omega
   go_enter Tryz.func85,Tryz.ntmps85
   go_wp2
   go_loopw [5,6,7] (fun ui _ _ wr => ∃ j : Nat,j + 1 ≤ n ∧ ui = .int .i64 ((j : Int) + 1) ∧ Hid (∀ p x y,p + 1 < j + 1 → l[p]? = some x → l[p + 1]? = some y → x ≠ y) ∧ Hid (Owned 2 RFact B 27 S wr (.slice (some ⟨g,0,none⟩) n cap) l) ∧ Hid (Below w.heap.size w wr))
    (fun ui _ _ _ => n - (intOf ui).toNat)
   case atStart => exact ⟨0,by omega,rfl,fun p x y h => by omega,HO,ζb _ _⟩
   case round =>
    obtain ⟨j,hj,rfl,hne,hown,hbel⟩ := hrel
    by_cases hlt : j + 1 < n
    ·obtain ⟨x,hx⟩ : ∃ x,l[j + 1]? = some x := ⟨_,ζe (by rw [HN.out];omega)⟩
     obtain ⟨y,hy⟩ : ∃ y,l[j]? = some y := ⟨_,ζe (by rw [HN.out];omega)⟩
     obtain ⟨g1,o1,av,e1,-,hg1,cx0,cx1,hav⟩ := RdFacts.at (hown.out.read ζF) hx
     obtain ⟨g2,o2,bv,e2,-,-,cy0,cy1,hbv⟩ := RdFacts.at (hown.out.read ζF) hy
     obtain ⟨aa,ac,rfl,-,-,-⟩ := id hav.form
     obtain ⟨ba,bc,rfl,-,-,-⟩ := id hbv.form
     injection e1 with e1;injection e1 with e1 e1' _;injection e2 with e2;injection e2 with e2 e2' _
     subst e1 e1' e2 e2'
     have n2x : x.args.length ≤ 1073741824 := N2.out x (ζm hx)
     have K := ζ (fun W (ha : Agree (fun b => S b ∨ B ≤ b) wr W) => eqFact x y _ _ W (hav.agree ζS ha) (hbv.agree ζS ha) n2x)
     have HX := ζ hx
     have HY := ζ hy
     clear hx hy hav hbv n2x
     have i1 : (0 : Int) ≤ (j : Int) := by omega
     have i2 : (j : Int) + 1 < (n : Int) := by omega
     have i3 : (j : Int) < (n : Int) := by omega
     have i4 : (0 : Int) ≤ (j : Int) + 1 := by omega
     have i5 : IntKind.i64.wrap (j : Int) = j := by rw [IntKind.wrap_i64];omega
     simp only [Nat.zero_add] at cx0 cx1 cy0 cy1
     by_cases hxy : x = y
     ·have hd : decide (x = y) = true := decide_eq_true hxy
      rw [hd] at K
      have HXY := ζ hxy
      clear hxy hd
      go_wp2_with fail
      go_region_held3 (fun w' => w'.cell? ⟨g,(j + 1) * 2,none⟩ = some (.string x.name) ∧ w'.cell? ⟨g,(j + 1) * 2 + 1,none⟩ = some (.slice aa x.args.length ac) ∧
       w'.cell? ⟨g,j * 2,none⟩ = some (.string y.name) ∧ w'.cell? ⟨g,j * 2 + 1,none⟩ = some (.slice ba y.args.length bc))
       (first | (refine ⟨?_,?_,?_,?_⟩ <;> (rw [hk2 _ hg1];assumption)) | go_keep)
       (first
        | (go_at_call 86;refine (K.out _ (Agree.refl _ _).drew).mono ?_;rintro e w1 ⟨rfl,hf1⟩;have hk2 : ∀ c,c < wr.heap.size → ∀ off,w1.cell? ⟨c,off,none⟩ = wr.cell? ⟨c,off,none⟩ := fun c hc off => ζl (w := wr.drew) hf1.below hc off))
      have hB2 : Below w.heap.size w w1 := hbel.out.drew.trans (hf1.below.mono hbel.out.size)
      obtain ⟨css,hrow⟩ := HalfRow.start ((hown.out.drew ζF).below ζF hf1.below) HN.out (i := j + 1) (by omega) (by omega)
      have hacc : compactL (l.take (j + 1 + 1)) = l.take (j + 1) := by
       rw [compactL_same HY.out (by rw [← HXY.out];exact HX.out),compactL_apart (j + 1) (by rw [HN.out];omega) hne.out]
      have HR := ζ hrow
      have HB2 := ζ (Below.grownBy hB2 (some g))
      have HACC := ζ hacc
      clear hB2 hrow hacc hf1 hk2 cx0 cx1 cy0 cy1
      go_wp2
      clear HX HY HXY K hg1 hown hbel
      obtain ⟨m,hm⟩ : ∃ m,n - (j + 1) = m := ⟨_,rfl⟩
      obtain ⟨c2,hc2⟩ : ∃ c2,cap - (j + 1) = c2 := ⟨_,rfl⟩
      rw [hm,hc2]
      go_loopw [5,7] (fun ui uk wr2 => ∃ i q : Nat,∃ css acc,q + 1 ≤ m ∧ ui = .int .i64 i ∧ uk = .int .i64 ((q : Int) + 1) ∧ Hid (HalfRow wr2 S g n cap i (j + 1 + q) B css acc l) ∧ Hid (acc = compactL (l.take (j + 1 + q + 1))) ∧ Hid (w.grownBy wr2 (some g)))
       (fun _ uk _ => m - (intOf uk).toNat)
      case atStart => exact ⟨j + 1,0,css,_,by omega,by simp,by simp,HR.out,HACC.out.symm,HB2.out⟩
      case round =>
       obtain ⟨i,q,css,acc,hq,rfl,rfl,hrow,hacc,hbel⟩ := hrel
       by_cases hlt2 : q + 1 < m
       ·obtain ⟨x2,hx⟩ : ∃ x2,l[j + 1 + q + 1]? = some x2 := ⟨_,ζe (by rw [HN.out];omega)⟩
        obtain ⟨y2,hy⟩ : ∃ y2,l[j + 1 + q]? = some y2 := ⟨_,ζe (by rw [HN.out];omega)⟩
        obtain ⟨av,hcx,hav,cx0,cx1⟩ := hrow.out.cellsAt (q := j + 1 + q + 1) (by omega) hx HN.out
        obtain ⟨bv,hcy,hbv,cy0,cy1⟩ := hrow.out.cellsAt (q := j + 1 + q) (by omega) hy HN.out
        obtain ⟨aa,ac,rfl,-,-,-⟩ := id hav.form
        obtain ⟨ba,bc,rfl,-,-,-⟩ := id hbv.form
        have n2x : x2.args.length ≤ 1073741824 := N2.out x2 (ζm hx)
        have K := ζ (fun W (ha : Agree (fun b => S b ∧ b ≠ g) wr W) => eqFact x2 y2 _ _ W (hav.agree ζS ha) (hbv.agree ζS ha) n2x)
        have hg1 : g < wr.heap.size := (hrow.out.2.2.1.lt g rfl).2
        have HX := ζ hx
        have HY := ζ hy
        have HCX := ζ hcx
        clear hx hy hav hbv n2x hcx hcy
        have i1 : (0 : Int) ≤ (q : Int) := by omega
        have i2 : (q : Int) + 1 < (m : Int) := by omega
        have i3 : (q : Int) < (m : Int) := by omega
        have i4 : (0 : Int) ≤ (q : Int) + 1 := by omega
        have i5 : IntKind.i64.wrap (q : Int) = q := by rw [IntKind.wrap_i64];omega
        have e1 : (j + 1 + q + 1) * 2 = (j + 1) * 2 + (q + 1) * 2 := by omega
        have e2 : (j + 1 + q) * 2 = (j + 1) * 2 + q * 2 := by omega
        rw [e1] at cx0 cx1
        rw [e2] at cy0 cy1
        clear e1 e2
        cases hxy : decide (x2 = y2)
        ·rw [hxy] at K
         have HXY := ζ hxy
         clear hxy
         go_wp2_with fail
         go_region_held3 (fun w' => w'.cell? ⟨g,(j + 1) * 2 + (q + 1) * 2,none⟩ = some (.string x2.name) ∧ w'.cell? ⟨g,(j + 1) * 2 + (q + 1) * 2 + 1,none⟩ = some (.slice aa x2.args.length ac) ∧
          w'.cell? ⟨g,(j + 1) * 2 + q * 2,none⟩ = some (.string y2.name) ∧ w'.cell? ⟨g,(j + 1) * 2 + q * 2 + 1,none⟩ = some (.slice ba y2.args.length bc))
          (first | (refine ⟨?_,?_,?_,?_⟩ <;> (rw [hk2 _ hg1];assumption)) | go_keep)
          (first
           | (go_at_call 86;refine (K.out _ (Agree.refl _ _).drew).mono ?_;rintro e w3 ⟨rfl,hf1⟩;have hk2 : ∀ c,c < wr.heap.size → ∀ off,w3.cell? ⟨c,off,none⟩ = wr.cell? ⟨c,off,none⟩ := fun c hc off => ζl (w := wr.drew) hf1.below hc off))
         have hrow3 := hrow.out.fresh (show Below wr.heap.size wr w3 from (ζb _ _).drew.trans hf1.below)
         obtain ⟨d0,d1,s0,s1,s2,s3,s4,s5⟩ := hrow3.spot (show i < n by have := hrow3.2.2.2.2.1;omega) (.string x2.name)
         have HR3 := ζ (hrow3.put HX.out HCX.out)
         have HG3 := ζ ((hbel.out.trans (Below.grownBy (show Below wr.heap.size wr w3 from (ζb _ _).drew.trans hf1.below) (some g))).trans ((((hrow3.2.2.1.stored (i * 2) (.string x2.name)).2).trans (((hrow3.2.2.1.stored (i * 2) (.string x2.name)).1.stored (i * 2 + 1) (.slice aa x2.args.length ac)).2))))
         have hin : (i : Int) < n := by have := hrow3.2.2.2.2.1;omega
         have i6 : (0 : Int) ≤ (i : Int) := by omega
         clear hrow3 hf1 hk2
         go_wp2
         go_roundw
         case rel =>
          refine ⟨i + 1,q + 1,_,acc ++ [x2],by omega,by go_num,by go_num,HR3.out,?_,HG3.out⟩
          rw [show j + 1 + (q + 1) + 1 = j + 1 + q + 2 by omega,compactL_other HY.out HX.out (fun e => of_decide_eq_false HXY.out e.symm),← hacc.out]
          exact ζ rfl
         case measure => simp [intOf];omega
        ·rw [hxy] at K
         have HXY := ζ (of_decide_eq_true hxy)
         clear hxy
         go_wp2_with fail
         go_region_held3 (fun w' => w'.cell? ⟨g,(j + 1) * 2 + (q + 1) * 2,none⟩ = some (.string x2.name) ∧ w'.cell? ⟨g,(j + 1) * 2 + (q + 1) * 2 + 1,none⟩ = some (.slice aa x2.args.length ac) ∧
          w'.cell? ⟨g,(j + 1) * 2 + q * 2,none⟩ = some (.string y2.name) ∧ w'.cell? ⟨g,(j + 1) * 2 + q * 2 + 1,none⟩ = some (.slice ba y2.args.length bc))
          (first | (refine ⟨?_,?_,?_,?_⟩ <;> (rw [hk2 _ hg1];assumption)) | go_keep)
          (first
           | (go_at_call 86;refine (K.out _ (Agree.refl _ _).drew).mono ?_;rintro e w3 ⟨rfl,hf1⟩;have hk2 : ∀ c,c < wr.heap.size → ∀ off,w3.cell? ⟨c,off,none⟩ = wr.cell? ⟨c,off,none⟩ := fun c hc off => ζl (w := wr.drew) hf1.below hc off))
         have HR3 := ζ (hrow.out.fresh (show Below wr.heap.size wr w3 from (ζb _ _).drew.trans hf1.below))
         have HG3 := ζ (hbel.out.trans (Below.grownBy (show Below wr.heap.size wr w3 from (ζb _ _).drew.trans hf1.below) (some g)))
         clear hf1 hk2
         go_wp2
         go_roundw
         case rel =>
          refine ⟨i,q + 1,css,acc,by omega,by go_num,by go_num,?_,?_,HG3.out⟩
          ·obtain ⟨h1,h2,h3,h4,h5,h6,h7⟩ := HR3.out
           exact ⟨h1,h2,h3,h4,by omega,h6,fun q' cs x hq' => h7 q' cs x (by omega)⟩
          ·rw [show j + 1 + (q + 1) + 1 = j + 1 + q + 2 by omega,compactL_same HY.out (by rw [← HXY.out];exact HX.out),← hacc.out]
           exact ζ rfl
         case measure => simp [intOf];omega
       ·have hqm : q + 1 = m := by omega
        have hin : i ≤ n := by have := hrow.out.2.2.2.2.1;omega
        have hin' : (i : Int) ≤ n := by omega
        have hic : i ≠ cap := by have := hrow.out.2.2.2.2.1;omega
        have hic' : cap ≠ i := fun e => hic e.symm
        have hic2 : i < cap := by omega
        have hic3 : (i : Int) < cap := by omega
        have i6 : (0 : Int) ≤ (i : Int) := by omega
        have hacc' : acc = compactL l := by rw [hacc.out,List.take_of_length_le (by rw [HN.out];omega)]
        have HA := ζ hacc'
        clear hacc'
        go_wp2
        obtain ⟨w5,hrun5,hown5,hg5⟩ := run_clear_own (P := Tryz.prog) (t := 24) (ty := 0) (k := 2) (by omega) Tryz.underlying24 Tryz.zeroValue27 rfl (by simp [Value.cells,Value.oneCell']) hrow.out.2.2.1 i (cap - i) hin
        have HO5 := ζ (hrow.out.shut hin hown5 hg5)
        have HG5 := ζ (hbel.out.trans hg5)
        clear hown5 hg5
        rw [hrun5]
        go_wp2
        go_ret
        exact ⟨⟨_,rfl,by rw [← HA.out];exact HO5.out⟩,HG5.out⟩
     ·have hd : decide (x = y) = false := decide_eq_false hxy
      rw [hd] at K
      have HXY := ζ hxy
      clear hxy hd
      go_wp2_with fail
      go_region_held3 (fun w' => w'.cell? ⟨g,(j + 1) * 2,none⟩ = some (.string x.name) ∧ w'.cell? ⟨g,(j + 1) * 2 + 1,none⟩ = some (.slice aa x.args.length ac) ∧
       w'.cell? ⟨g,j * 2,none⟩ = some (.string y.name) ∧ w'.cell? ⟨g,j * 2 + 1,none⟩ = some (.slice ba y.args.length bc))
       (first | (refine ⟨?_,?_,?_,?_⟩ <;> (rw [hk2 _ hg1];assumption)) | go_keep)
       (first
        | (go_at_call 86;refine (K.out _ (Agree.refl _ _).drew).mono ?_;rintro e w1 ⟨rfl,hf1⟩;have hk2 : ∀ c,c < wr.heap.size → ∀ off,w1.cell? ⟨c,off,none⟩ = wr.cell? ⟨c,off,none⟩ := fun c hc off => ζl (w := wr.drew) hf1.below hc off))
      have HB2 := ζ (hbel.out.drew.trans (hf1.below.mono hbel.out.size))
      have HO2 := ζ ((hown.out.drew ζF).below ζF hf1.below)
      clear hf1 hk2 cx0 cx1 cy0 cy1
      go_wp2
      go_roundw
      case rel =>
       refine ⟨j + 1,by omega,by go_num,?_,HO2.out,HB2.out⟩
       intro p a b hp ha hb
       by_cases hpj : p = j
       ·subst hpj
        rw [HY.out] at ha
        rw [HX.out] at hb
        obtain rfl := Option.some.inj ha
        obtain rfl := Option.some.inj hb
        exact fun e => HXY.out e.symm
       ·exact hne.out p a b (by omega) ha hb
      case measure => simp [intOf];omega
    ·have hjn : j + 1 = n := by omega
     have hc : compactL l = l := by
      have := compactL_apart (l := l) (j + 1) (by rw [HN.out];omega) hne.out
      rwa [List.take_of_length_le (by rw [HN.out];omega)] at this
     have HC := ζ hc
     clear hc
     go_wp2
     go_ret
     exact ⟨⟨_,rfl,by rw [HC.out];exact hown.out⟩,Below.grownBy hbel.out _⟩
end
section
open Go.RowKit
theorem wpList_append_run {P : Program} {ops : Array Oper} {rest : List Oper} {o : Oper} {a : Act} {w : World} {Q : Exit → Act → World → Prop} (hgd : o.guard = none) (s x : Operand) (t tn : TypeId)
 (ho : o.op = .call { callee := .builtin .append,args := #[s,x],argTypes := #[t,tn] }) (v u v' : Value) (w' : World) (hs : a.eval s = v) (hx : a.eval x = u)
 (hrun : (Builtin.append_ #[t,tn] o.type #[v,u]).run P w = .ok v' w') (h : wpList P ops Q rest (a.put o.dst v') w') : wpList P ops Q (o :: rest) a w :=
 wpList_plain hgd fun K hK => by
  unfold Oper.wp execOp
  simp only [ho,resolve,invoke,builtin,Sem.run_bind,Sem.run_pure,Result.andThen_ok,List.map_toArray,List.map_cons,List.map_nil,hs,hx,hrun]
  exact hK _ _ h
set_option maxRecDepth 100000 in
set_option maxHeartbeats 0 in
theorem growFacts {S : Nat → Prop} (w : World) (n : Nat) (hn : n ≤ 4294967296) :
 Calls Tryz.prog 87 #[.slice none 0 0,.int .i64 n] w fun e w' => (∃ v',e = .returned v' ∧ Owned 2 RFact w.heap.size 27 S w' v' []) ∧ Below w.heap.size w w' := by
 by_cases h0 : n = 0
 ·subst h0
  go_enter Tryz.func87,Tryz.ntmps87
  go_wp2
  go_ret
  exact ⟨⟨_,rfl,Owned.nil⟩,ζb _ _⟩
 ·have i1 : (0 : Int) < (n : Int) := by omega
  have i2 : ¬ ((n : Int) < 0) := by omega
  have i3 : IntKind.i64.wrap (n : Int) = n := by rw [IntKind.wrap_i64];omega
  obtain ⟨i,z,hi,hz,hsize,hby,hzs⟩ := rowFacts.ex
  have hb : i.bytes = 40 := by
   have e : (Tryz.prog.info? 27).map (·.bytes) = some 40 := by kernel_rfl
   rw [hi] at e
   exact Option.some.inj e
  have hrun := Lib.run_append_grow_zeros (P := Tryz.prog) w 24 3 24 27 i z .i64 .i64 Tryz.underlying24 Tryz.underlying3 hi hz none 0 0 [] (run_firstCells_none _ _ _ _ _) n (by omega) (by omega) (by omega) (by omega) (by rw [hb];omega)
   (growslice_fits (by omega) (by rw [hb];omega))
  obtain ⟨G,hG⟩ : ∃ G,G = grownCap w (0 + n) 0 27 := ⟨_,rfl⟩
  have hGn : 0 + n ≤ G := by rw [hG];exact grownCap_ge w _ _ _
  have hGm : G ≤ maxLen := by rw [hG];exact grownCap_le_maxLen w _ _ _ (by unfold maxLen;omega)
  rw [← hG] at hrun
  clear hG
  obtain ⟨cur,hcur⟩ : ∃ cur,cur = (#[] : Array Value) ++ Builtin.zeroCells z.cells n ++ Builtin.zeroCells z.cells (G - (0 + n)) := ⟨_,rfl⟩
  have hsz : cur.size = G * 2 := by
   rw [hcur]
   simp only [Array.size_append,size_zeroCells,hzs]
   simp;omega
  rw [show ([] : List Value).toArray = #[] from rfl,← hcur] at hrun
  have HC := ζ hcur
  have HS := ζ hsz
  clear hcur hsz hi hz hzs hsize hby hb
  rw [Nat.zero_add] at hrun hGn
  have hG63 : G ≤ 9223372036854775807 := by unfold maxLen at hGm;omega
  have HR := ζ hrun
  clear hrun
  go_enter Tryz.func87,Tryz.ntmps87
  go_wp2_with (at_builtin;refine wpList_append_run (by rfl) _ _ 24 3 (by rfl) _ _ _ _ (by rfl) (by rfl) HR.out ?_)
  go_wp2
  go_ret
  exact ⟨⟨_,rfl,Owned.made (w := w.drew) (ζn _) hGm HS.out⟩,((ζb _ _).drew).alloc (ζn _) _⟩
theorem Owned.base {α : Type} {k : Nat} {R : Reader α} {B B' : Nat} {e : TypeId} {S : Nat → Prop} {w : World} {v : Value} {l : List α} (h : Owned k R B e S w v l) (hb : B' ≤ B) : Owned k R B' e S w v l := by
 obtain ⟨css,h1,h2,ho,h3⟩ := h
 refine ⟨css,h1,h2,⟨ho.1,?_⟩,h3⟩
 rcases ho.2 with hn | ⟨g,cap,cur,rfl,hg,rest⟩
 ·exact .inl hn
 ·exact .inr ⟨g,cap,cur,rfl,Nat.le_trans hb hg,rest⟩
def two {α : Type} (a b : List α) (k : Nat) : List α := ([a,b].take k).flatten
theorem RdSlice.old {α : Type} {k : Nat} {R : Reader α} (hR : Steady R) {S : Nat → Prop} {w w' : World} {v : Value} {l : List α} (h : RdSlice k R S w v l) (hb : Below w.heap.size w w') : RdSlice k R (fun b => b < w.heap.size) w' v l :=
 (h.more hR (fun _ _ h => h)).agree hR (Below.agree hb)
set_option maxRecDepth 100000 in
set_option maxHeartbeats 0 in
theorem concatFacts {S T : Nat → Prop} (w : World) (va vb : Value) (a b : List PFact) (g : Nat) (ha : RdFacts S w va a) (hb : RdFacts T w vb b) (c0 : w.cell? ⟨g,0,none⟩ = some va) (c1 : w.cell? ⟨g,1,none⟩ = some vb) (hg : g < w.heap.size)
 (n1 : a.length ≤ 1073741824) (n2 : b.length ≤ 1073741824) :
 Calls Tryz.prog 65 #[.slice (some ⟨g,0,none⟩) 2 2] w fun e w' => (∃ v',e = .returned v' ∧ Owned 2 RFact w.heap.size 27 (fun q => q < w.heap.size) w' v' (a ++ b)) ∧ Below w.heap.size w w' := by
 obtain ⟨aa,ac,rfl,-,-,-⟩ := id ha.form
 obtain ⟨ba,bc,rfl,-,-,-⟩ := id hb.form
 have HA := ζ (fun W (h : Below w.heap.size w W) => ha.old ζF h)
 have HB := ζ (fun W (h : Below w.heap.size w W) => hb.old ζF h)
 clear ha hb
 go_enter Tryz.func65,Tryz.ntmps65
 go_wp2
 go_loop [3,11,5] (fun us uk _ => ∃ k : Nat,k ≤ 2 ∧ uk = .int .i64 k ∧ us = .int .i64 ((two a b k).length : Int)) (fun _ uk _ => 2 - (intOf uk).toNat)
 case atStart => exact ⟨0,by omega,rfl,rfl⟩
 case round =>
  obtain ⟨k,hk,rfl,rfl⟩ := hrel
  rcases (show k = 0 ∨ k = 1 ∨ k = 2 by omega) with rfl | rfl | rfl
  ·have e0 : ((two a b 0).length : Int) = 0 := by simp [two]
   have z0 : ((0 : Nat) : Int) = 0 := rfl
   rw [e0,z0]
   go_wp2
   go_round
   case rel => exact ⟨1,by omega,by go_num,by simp [two]⟩
   case measure => simp [intOf]
  ·have e1 : (two a b 1).length = a.length := by simp [two]
   rw [e1]
   go_wp2
   go_round
   case rel => exact ⟨2,by omega,by go_num,by simp [two]⟩
   case measure => simp [intOf]
  ·have e2 : (two a b 2).length = a.length + b.length := by simp [two]
   rw [e2]
   have HG := ζ (growFacts (S := fun q => q < w.heap.size) w (a.length + b.length) (by omega))
   go_wp2_with (go_at_call 87;refine (HG.out).mono ?_;rintro e w1 ⟨⟨v1,rfl,ho1⟩,hb1⟩)
   have HO := ζ ho1
   have HW := ζ hb1
   have hg1 : g < w1.heap.size := Nat.lt_of_lt_of_le hg hb1.size
   clear ho1 hb1
   go_wp2
   go_loopw [27,6,8] (fun uk uv _ wr => ∃ k : Nat,k ≤ 2 ∧ uk = .int .i64 k ∧ Hid (Owned 2 RFact w.heap.size 27 (fun q => q < w.heap.size) wr uv (two a b k)) ∧ Hid (Below w.heap.size w wr)) (fun uk _ _ _ => 2 - (intOf uk).toNat)
   case atStart => exact ⟨0,by omega,rfl,HO,HW⟩
   case round =>
    obtain ⟨k,hk,rfl,hown,hbel⟩ := hrel
    have d0 := (ζl hbel.out hg 0).trans c0
    have d1 := (ζl hbel.out hg 1).trans c1
    rcases (show k = 0 ∨ k = 1 ∨ k = 2 by omega) with rfl | rfl | rfl
    ·have z0 : ((0 : Nat) : Int) = 0 := rfl
     rw [z0]
     go_wp2_with (at_builtin;refine wpList_append_many (B := w.heap.size) (e := 27) (S := fun q => q < w.heap.size) (by rfl) _ _ 24 (by rfl) ζF RFact.one rowFacts _ (two a b 0) (by rfl) hown.out _ a (by rfl) (HA.out _ hbel.out) (fun cs x hr => RFact.steady.more (fun q hq _ => ⟨hq,fun e => by have := (hown.out.row_lt e.symm).1;omega⟩) hr) (by simp [two];omega) hbel.out.size ?_;intro v' w' hown' hg' hat';have HO' := ζ hown';have HB' := ζ (hbel.out.grown hg' hbel.out.size (fun q hq => (hown.out.row_lt hq).1));clear hown' hg' hat')
     go_wp2
     go_roundw
     case rel => exact ⟨1,by omega,by go_num,by simpa [two] using HO',HB'⟩
     case measure => simp [intOf]
    ·have z0 : ((1 : Nat) : Int) = 1 := rfl
     rw [z0]
     go_wp2_with (at_builtin;refine wpList_append_many (B := w.heap.size) (e := 27) (S := fun q => q < w.heap.size) (by rfl) _ _ 24 (by rfl) ζF RFact.one rowFacts _ (two a b 1) (by rfl) hown.out _ b (by rfl) (HB.out _ hbel.out) (fun cs x hr => RFact.steady.more (fun q hq _ => ⟨hq,fun e => by have := (hown.out.row_lt e.symm).1;omega⟩) hr) (by simp [two];omega) hbel.out.size ?_;intro v' w' hown' hg' hat';have HO' := ζ hown';have HB' := ζ (hbel.out.grown hg' hbel.out.size (fun q hq => (hown.out.row_lt hq).1));clear hown' hg' hat')
     go_wp2
     go_roundw
     case rel => exact ⟨2,by omega,by go_num,by simpa [two] using HO',HB'⟩
     case measure => simp [intOf]
    ·have z0 : ((2 : Nat) : Int) = 2 := rfl
     rw [z0]
     go_wp2
     go_ret
     exact ⟨⟨_,rfl,by simpa [two] using hown.out⟩,hbel.out⟩
set_option maxHeartbeats 0 in
theorem ofCalls {S : Nat → Prop} (v : Value) (l : List PFact) (w : World) (h : RdFacts S w v l) (n1 : l.length ≤ 1073741824) (n2 : ∀ x ∈ l,x.args.length ≤ 1073741824) :
 Calls Tryz.prog 64 #[v] w fun e w' => (∃ v',e = .returned v' ∧ Owned 2 RFact w.heap.size 27 (New w) w' v' (ofF l)) ∧ Below w.heap.size w w' := by
 obtain ⟨a,c,rfl,-,-,-⟩ := id h.form
 have K := ζ (ownCalls _ l w h n1 n2)
 have N2 := ζ n2
 clear h n2
 go_enter Tryz.func64,Tryz.ntmps64
 go_wp2_with (first
  | (go_at_call 18;refine (K.out).mono ?_;rintro e w1 ⟨⟨v1,rfl,ho1⟩,hb1⟩;obtain ⟨a1,c1,rfl,-,-,-⟩ := id (ho1.read ζF).form)
  | (go_at_call 84;refine (sortFacts ho1 n1 N2.out).mono ?_;rintro e w2 ⟨rfl,l2,hp,hs,ho2,hg2⟩;have HC := ζ (compact_of hp hs);have HP := ζ hp;have HB := ζ (hb1.grown hg2 hb1.size (fun k hk => (ho1.row_lt hk).1));clear hs hp hg2 ho1 hb1)
  | (go_at_call 85;refine (compactFacts ho2 (by rw [HP.out.length_eq];exact n1) (fun x hx => N2.out x (HP.out.mem_iff.1 hx))).mono ?_;rintro e w3 ⟨⟨v3,rfl,ho3⟩,hg3⟩;have HO := ζ ho3;have HB3 := ζ (HB.out.grown hg3 HB.out.size (fun k hk => (ho2.row_lt hk).1));clear ho3 hg3 ho2))
 go_ret
 rw [HC.out] at HO
 exact ⟨⟨_,rfl,HO.out⟩,HB3.out⟩
set_option maxHeartbeats 0 in
theorem joinCalls {S T : Nat → Prop} (va vb : Value) (a b : List PFact) (w : World) (ha : RdFacts S w va a) (hb : RdFacts T w vb b) (n1 : a.length + b.length ≤ 1073741824) (n2 : ∀ x ∈ a,x.args.length ≤ 1073741824) (n3 : ∀ x ∈ b,x.args.length ≤ 1073741824) :
 Calls Tryz.prog 43 #[va,vb] w fun e w' => (∃ v',e = .returned v' ∧ Owned 2 RFact w.heap.size 27 (New w) w' v' (joinF a b)) ∧ Below w.heap.size w w' := by
 obtain ⟨aa,ac,rfl,-,-,-⟩ := id ha.form
 obtain ⟨ba,bc,rfl,-,-,-⟩ := id hb.form
 have HA := ζ ha
 have HB := ζ hb
 have N := ζ (fun x (hx : x ∈ a ++ b) => (List.mem_append.1 hx).elim (n2 x) (n3 x))
 clear ha hb n2 n3
 go_enter Tryz.func43,Tryz.ntmps43
 go_wp2_with (first
  | (go_at_call 65;refine (concatFacts (S := fun _ => True) (T := fun _ => True) _ _ _ a b w.heap.size ((HA.out.more ζF (fun _ _ _ => trivial)).agree ζF ((Agree.refl _ _).alloc _)) ((HB.out.more ζF (fun _ _ _ => trivial)).agree ζF ((Agree.refl _ _).alloc _)) (by simp) (by simp) (by simp) (by omega) (by omega)).mono ?_;rintro e w1 ⟨⟨v1,rfl,ho1⟩,hb1⟩;have HR := ζ (ho1.read ζF);have HB1 := ζ (((ζb w.heap.size w).alloc (ζn _) _).trans (hb1.mono (by simp)));clear ho1 hb1)
  | (go_at_call 64;refine (ofCalls _ (a ++ b) _ HR.out (by simp;omega) N.out).mono ?_;rintro e w2 ⟨⟨v2,rfl,ho2⟩,hb2⟩;have HO := ζ ho2;have HB2 := ζ (HB1.out.trans (hb2.mono HB1.out.size));clear ho2 hb2))
 go_ret
 exact ⟨⟨_,rfl,Owned.base (HO.out.moreS ζF (fun b hb _ => Nat.le_trans HB1.out.size hb)) HB1.out.size⟩,HB2.out⟩
end
section
open Go.RowKit
theorem lessF_snoc (a b : List PFact) (x : PFact) : lessF (a ++ [x]) b = if memF x b then lessF a b else lessF a b ++ [x] := by
 unfold lessF
 rw [List.filter_append]
 cases h : memF x b <;> simp [h]
attribute [local go_sem ↓] Go.wp_at_zero Go.wp_at_succ
set_option maxRecDepth 100000 in
set_option maxHeartbeats 0 in
theorem lessCalls {S T : Nat → Prop} (va vb : Value) (l m : List PFact) (w : World) (h : RdFacts S w va l) (hm : RdFacts T w vb m) (hs : Rising m) (n1 : l.length ≤ 1073741824) (n2 : ∀ x ∈ l,x.args.length ≤ 1073741824) (n3 : m.length ≤ 1073741824) (n4 : ∀ x ∈ m,x.args.length ≤ 1073741824) :
 Calls Tryz.prog 21 #[va,vb] w fun e w' => (∃ v',e = .returned v' ∧ Owned 2 RFact w.heap.size 27 (New w) w' v' (lessF l m)) ∧ Below w.heap.size w w' := by
 obtain ⟨a,c,rfl,-,-,-⟩ := id h.form
 obtain ⟨b,d,rfl,-,-,-⟩ := id hm.form
 have H := ζ h
 have N2 := ζ n2
 have K := ζ (fun W (x : PFact) (av : Value) (hW : Below w.heap.size w W) (hx : RdStrs (fun _ => True) W av x.args) => inFact _ m x av W ((hm.more ζF (fun _ _ _ => trivial)).agree ζF (Below.agree (S := fun _ => True) hW)) hx hs n3 n4)
 clear h n2 hm hs n4
 go_enter Tryz.func21,Tryz.ntmps21
 go_wp2
 go_loopw [10,5] (fun i v wr => ∃ k : Nat,k ≤ l.length ∧ i = .int .i64 k ∧ Hid (Owned 2 RFact w.heap.size 27 (New w) wr v (lessF (l.take k) m)) ∧ Hid (Below w.heap.size w wr)) (fun i _ _ => l.length - (intOf i).toNat)
 case atStart => exact ⟨0,Nat.zero_le _,rfl,Owned.nil,ζb _ _⟩
 case round =>
  obtain ⟨k,hk,rfl,HO,HB⟩ := hrel
  by_cases hlt : k < l.length
  ·obtain ⟨x,hx⟩ : ∃ x,l[k]? = some x := ⟨_,ζe hlt⟩
   have hn2 : x.args.length ≤ 1073741824 := N2.out x (ζm hx)
   obtain ⟨b1,o1,av,rfl,-,-,hc1,hc2,hav⟩ := RdFacts.at ((H.out.more ζF (S' := fun _ => True) (fun _ _ _ => trivial)).agree ζF (Below.agree HB.out)) hx
   obtain ⟨aa,ac,rfl,-,-,-⟩ := id hav.form
   have HT := ζ (show lessF (l.take (k + 1)) m = if memF x m then lessF (l.take k) m else lessF (l.take k) m ++ [x] by rw [List.take_add_one,hx];exact lessF_snoc (l.take k) m x)
   have HA := ζ hav
   have hsz := HB.out.size
   have hll : (lessF (l.take k) m).length ≤ k := by
    refine Nat.le_trans (List.length_filter_le _ _) ?_
    rw [List.length_take];exact Nat.min_le_left _ _
   have HLL := ζ hll
   clear hav hx hll
   cases hmem : memF x m
   ·have HM := ζ hmem
    clear hmem
    go_wp2_with (go_at_call 17;refine (K.out _ x _ (HB.out.alloc hsz _) (HA.out.agree ζS ((Agree.refl _ _).alloc _))).mono ?_;rintro e w0 ⟨rfl,hf0⟩;rw [HM.out])
    have hB0 : Below w.heap.size w w0 := (HB.out.alloc hsz _).trans (hf0.below.mono (by simp;omega))
    have HB0 := ζ hB0
    have HO0 := ζ ((HO.out.alloc ζF (.cells #[.string x.name,.slice aa x.args.length ac] 27)).below ζF hf0.below)
    have HA0 := ζ ((HA.out.agree ζS ((Agree.refl _ _).alloc (.cells #[.string x.name,.slice aa x.args.length ac] 27))).agree ζS (Below.agree hf0.below))
    have hs0 : wr.heap.size < w0.heap.size := by have := hf0.below.size;simp at this;omega
    have d0 : w0.cell? ⟨wr.heap.size,0,none⟩ = some (.string x.name) := by rw [ζl hf0.below (by simp)];simp
    have d1 : w0.cell? ⟨wr.heap.size,1,none⟩ = some (.slice aa x.args.length ac) := by rw [ζl hf0.below (by simp)];simp
    have hsz0 := hB0.size
    clear hB0 hf0
    go_wp2_with fail
    go_region_held3 (fun w' => w'.cell? ⟨wr.heap.size,0,none⟩ = some (.string x.name) ∧ w'.cell? ⟨wr.heap.size,1,none⟩ = some (.slice aa x.args.length ac))
     (first
      | (refine ⟨?_,?_⟩ <;> (rw [hk2];simpa using by assumption))
      | (refine ⟨?_,?_⟩ <;> (rw [ζl hb1 (by simpa using hs0)];assumption))
      | go_keep)
     (first
      | (go_at_call 40;refine (cloneStr _ x.args _ (HA0.out.agree ζS ((Agree.refl _ _).drew)) hn2).mono ?_;rintro e w1 ⟨⟨v1,rfl,hr1⟩,hb1⟩;obtain ⟨a1,c1,rfl,-,-,-⟩ := id hr1.form)
      | (refine step_append_one (by rfl) _ _ 24 (by rfl) ζF rowFacts _ (lessF (l.take k) m) (by rfl) (((HO0.out.drew ζF).below ζF hb1).alloc ζF _) _ 1 #[.string x.name,.slice a1 x.args.length c1] 27 (0,0) x (by rfl) (heap_alloc_new _ _) rfl (by simp [Value.oneCell']) (RFact.fresh HO0.out hsz0 (ζn _) hr1 ((Agree.refl _ _).alloc _)) (by have := HLL.out;omega) (by have := hb1.size;simp at this ⊢;omega) ?_;intro v2 w2 hown2 hg2 hat2;have hk2 := fun off => kept_cell (c := wr.heap.size) hb1 hg2 (by simpa using hs0) (fun e => by have := (HO.out.row_lt e).2;omega) off))
    have HO2 := ζ (show Owned 2 RFact w.heap.size 27 (New w) w2 v2 (lessF (l.take (k + 1)) m) by rw [HT.out,HM.out];exact hown2)
    have HB2 := ζ (show Below w.heap.size w w2 from (((HB0.out.drew.trans (hb1.mono hsz0)).alloc (by have := hb1.size;simp at this ⊢;omega) _).grown hg2 (by have := hb1.size;simp at this ⊢;omega) (fun q hq => (HO.out.row_lt hq).1)))
    clear hown2 hg2 hat2 hk2 hb1 hr1
    go_wp2
    go_roundw
    case rel => exact ⟨k + 1,by omega,by go_num,HO2.out,HB2.out⟩
    case measure => simp [intOf];omega
   ·have HM := ζ hmem
    clear hmem
    go_wp2_with (go_at_call 17;refine (K.out _ x _ (HB.out.alloc hsz _) (HA.out.agree ζS ((Agree.refl _ _).alloc _))).mono ?_;rintro e w0 ⟨rfl,hf0⟩;rw [HM.out])
    have HB0 := ζ ((HB.out.alloc hsz _).trans (hf0.below.mono (by simp;omega)))
    have HO0 := ζ (show Owned 2 RFact w.heap.size 27 (New w) w0 _ (lessF (l.take (k + 1)) m) by rw [HT.out,HM.out];exact ((HO.out.alloc ζF (.cells #[.string x.name,.slice aa x.args.length ac] 27)).below ζF hf0.below))
    clear hf0
    go_wp2
    go_roundw
    case rel => exact ⟨k + 1,by omega,by go_num,HO0.out,HB0.out⟩
    case measure => simp [intOf];omega
  ·have htk : l.take k = l := List.take_of_length_le (by omega)
   rw [htk] at HO
   clear htk
   go_wp2
   go_ret
   exact ⟨⟨_,rfl,HO.out⟩,HB.out⟩
end
section
open Go.RowKit Go.Maps
theorem grown_drew (w : World) (row : Option Nat) : w.grownBy w.drew row := ⟨rfl,rfl,rfl,ζn _,fun _ _ _ => rfl⟩
theorem MapI.wider {w : World} {b n m : Nat} {f : Str → Option Int} (h : MapI w b n f) (hm : n ≤ m) : MapI w b m f := let ⟨D,⟨es,clock,h1,h2,h3,h4⟩,h5⟩ := h;⟨D,⟨es,clock,h1,h2,Nat.le_trans h3 hm,h4⟩,h5⟩
set_option maxRecDepth 100000 in
set_option maxHeartbeats 0 in
theorem arityCalls {S : Nat → Prop} (b o bm n : Nat) (m : Known) (x : PAtom) (tv : Value) (w : World) (c1 : w.cell? ⟨b,o + 1,none⟩ = some (.string x.name)) (c2 : w.cell? ⟨b,o + 2,none⟩ = some tv) (h : RdTerms S w tv x.terms)
 (hm : MapI w bm n m) (hn : n < maxLen) (hs : x.name.size ≤ maxLen) (hl : x.terms.length ≤ 1073741824) :
 Calls Tryz.prog 57 #[.map (some bm),.pointer (some ⟨b,o,none⟩)] w fun e w' => e = .returned (.bool (fits m x)) ∧ MapI w' bm (n + 1) (learn m x) ∧ w.grownBy w' (some bm) := by
 obtain ⟨a,c,rfl,-,-,-⟩ := id h.form
 have hg := hm.getOk hs
 cases hv : m x.name with
 | some q =>
  rw [hv] at hg
  have HM := ζ (hm.wider (Nat.le_succ n))
  have HL := ζ (show learn m x = m by unfold learn;rw [hv];rfl)
  have HF := ζ (show fits m x = (q == (x.terms.length : Int)) by unfold fits;rw [hv])
  clear h hm hv
  simp only [Option.isSome,Option.getD] at hg
  go_enter Tryz.func57,Tryz.ntmps57
  go_wp2
  go_ret
  exact ⟨ret_bool HF.out.symm,by rw [HL.out];exact HM.out,World.grownBy.refl _ _⟩
 | none =>
  rw [hv] at hg
  simp only [Option.isSome,Option.getD] at hg
  obtain ⟨w1,hrun,hm1,hg1⟩ := hm.drew.put hn hs (x := (x.terms.length : Int)) (WalkArith.wf_i64 (by omega))
  have HM1 := ζ (show MapI w1 bm (n + 1) (learn m x) by unfold learn;rw [hv];exact hm1)
  have HG1 := ζ (show w.grownBy w1 (some bm) from (grown_drew w _).trans hg1)
  have HF := ζ (show fits m x = true by unfold fits;rw [hv])
  clear h hm hv hm1 hg1
  go_enter Tryz.func57,Tryz.ntmps57
  go_wp2
  go_cut [] (fun wx => MapI wx bm (n + 1) (learn m x) ∧ w.grownBy wx (some bm))
  case first =>
   go_region_law (fail)
   all_goals
    go_wp2_with fail
    go_meet
    exact ⟨HM1.out,HG1.out⟩
  obtain ⟨HM2,HG2⟩ := hcut
  replace HM2 := ζ HM2
  replace HG2 := ζ HG2
  go_wp2
  go_ret
  exact ⟨ret_bool HF.out.symm,HM2.out,HG2.out⟩
theorem wrongFrom_bad {m : Known} {i : Int} {r : PRule} {p : List PRule} (h : ruleBad r ≠ 0) : wrongFrom m i (r :: p) = (ruleBad r,i) := by unfold wrongFrom;rw [if_pos h]
theorem wrongFrom_unfit {m : Known} {i : Int} {r : PRule} {p : List PRule} (h : ruleBad r = 0) (hf : fitAll m (r.head :: r.body) = false) : wrongFrom m i (r :: p) = (8,i) := by unfold wrongFrom;rw [if_neg (by simpa using h),hf];rfl
theorem wrongFrom_fit {m : Known} {i : Int} {r : PRule} {p : List PRule} (h : ruleBad r = 0) (hf : fitAll m (r.head :: r.body) = true) : wrongFrom m i (r :: p) = wrongFrom (learnAll m (r.head :: r.body)) (i + 1) p := by
 conv => lhs;unfold wrongFrom
 rw [if_neg (by simpa using h),hf];rfl
structure NameSmall (x : PRule) : Prop where
 h : x.head.name.size ≤ 1048576
 b : ∀ a ∈ x.body,a.name.size ≤ 1048576
theorem at_drop {α : Type} {l : List α} {k : Nat} {x : α} (h : l[k]? = some x) : l.drop k = x :: l.drop (k + 1) := by
 obtain ⟨hk,e⟩ := List.getElem?_eq_some_iff.1 h
 rw [List.drop_eq_getElem_cons hk,e]
set_option maxRecDepth 100000 in
set_option maxHeartbeats 0 in
theorem wrongCalls {S : Nat → Prop} (p : List PRule) (v : Value) (w : World) (h : RdRules S w v p) (n1 : p.length ≤ 1048576) (n2 : ∀ r ∈ p,RuleSmall r) (n3 : ∀ r ∈ p,NameSmall r) :
 Calls Tryz.prog 34 #[v] w fun e w' => e = .returned (.agg #[.int .i64 (wrongP p).1,.int .i64 (wrongP p).2]) ∧ Below w.heap.size w w' := by
 obtain ⟨a,c,rfl,-,-,-⟩ := id h.form
 have H := ζ h
 have N2 := ζ n2
 have N3 := ζ n3
 clear h n2 n3
 by_cases hmany : 16 < p.length
 ·have hs : wrongP p = (5,0) := by unfold wrongP;rw [if_pos hmany]
  have HS := ζ hs
  have i1 : (16 : Int) < (p.length : Int) := by omega
  clear hs
  go_enter Tryz.func34,Tryz.ntmps34
  go_wp2
  refine bodyPost_ret (v := .agg #[.int .i64 5,.int .i64 0]) (by simp [results,Tryz.results34,go_sem]) rfl ⟨by rw [HS.out],?_⟩
  exact (ζb _ _).alloc (ζn _) _
 have hP0 : wrongP p = wrongFrom (fun _ => none) ((0 : Nat) : Int) (p.drop 0) := by unfold wrongP;rw [if_neg hmany];rfl
 have HP0 := ζ hP0
 clear hP0
 have i0 : ¬ ((16 : Int) < (p.length : Int)) := by omega
 have hmm := @run_makeMap Tryz.prog
 go_enter Tryz.func34,Tryz.ntmps34
 go_wp2
 have HB := ζ (((ζb w.heap.size w).alloc (ζn _) (.cells #[.int .i64 0,.int .i64 0] 49)).alloc (by simp) (.map #[] 0))
 have HK := ζ ((Blk.new w 49 #[.int .i64 0,.int .i64 0]).alloc (.map #[] 0))
 have HM := ζ (MapI.made (w.alloc (.cells #[.int .i64 0,.int .i64 0] 49)))
 have hms : (w.alloc (.cells #[.int .i64 0,.int .i64 0] 49)).heap.size = w.heap.size + 1 := by simp
 rw [hms] at HM
 clear hms
 go_loopw [14] (fun i wr => ∃ (k : Nat) (n : Nat) (m : Known),k ≤ p.length ∧ i = .int .i64 k ∧ n ≤ k * 6 ∧ Hid (MapI wr (w.heap.size + 1) n m) ∧ Hid (Blk wr w.heap.size 49 #[.int .i64 0,.int .i64 0]) ∧ Hid (Below w.heap.size w wr) ∧ Hid (wrongP p = wrongFrom m (k : Int) (p.drop k))) (fun i _ => p.length - (intOf i).toNat)
 case atStart => exact ⟨0,0,_,Nat.zero_le _,rfl,Nat.zero_le _,by simpa using HM,HK,HB,HP0⟩
 case round =>
  clear HB HK HM HP0
  obtain ⟨k,n,m,hk,rfl,hn,HM,HK,HB,HP⟩ := hrel
  by_cases hlt : k < p.length
  ·obtain ⟨x,hx⟩ : ∃ x,p[k]? = some x := ⟨_,ζe hlt⟩
   have hmem := ζm hx
   obtain ⟨b1,o1,tv,bv,rfl,-,hb1,d0,d1,d2,d3,htv,hbv⟩ := RdRules.at H.out hx
   have HR := ζ (show RuleAt S w b1 (o1 + k * 4) x tv bv from ⟨hb1,d0,d1,d2,d3,htv,hbv⟩)
   have HS := ζ (N2.out x hmem)
   have HN := ζ (N3.out x hmem)
   have KR := ζ (checkRule b1 (o1 + k * 4) x tv bv wr (HR.out.up HB.out) HS.out)
   rw [at_drop hx] at HP
   have hx' := hx
   clear d0 d1 d2 d3 htv hbv hx hmem
   by_cases hz : ruleBad x = 0
   rotate_left
   ·have HE := ζ (HP.out.trans (wrongFrom_bad hz))
    have hne : (ruleBad x != 0) = true := by simpa using hz
    clear hz
    generalize ruleBad x = q at *
    go_wp2_with (go_at_call 56;refine (KR.out).mono ?_;rintro e w1 ⟨rfl,hf1⟩;have HB1 := ζ (HB.out.trans (hf1.mono HB.out.size));have HK1 := ζ (HK.out.below hf1 HK.out.lt);have c0 := HK1.out.cell 0;have c1 := HK1.out.cell 1;have f0 := HK1.out.frozen 0;have f1 := HK1.out.frozen 1;simp at c0 c1;clear hf1)
    go_wp2
    refine bodyPost_ret (v := .agg #[.int .i64 q,.int .i64 k]) (by simp [results,Tryz.results34,go_sem,c0,c1]) rfl ⟨by rw [HE.out],?_⟩
    exact (HB1.out.setCell (ζn _) _).setCell (ζn _) _
   rw [hz] at KR
   have HX := ζ hx'
   have HZ := ζ hz
   have hb5 := ruleBad_body hz
   clear hz
   have hmb : w.heap.size + 1 < wr.heap.size := HM.out.lt
   have hnx : n < maxLen := by unfold maxLen;omega
   have hpre : Hid (MapI wr (w.heap.size + 1) n m) := HM
   have HNE : Hid (∀ q,some (w.heap.size + 1) = some q → w.heap.size ≤ q) := ζ (fun q hq => by cases hq;omega)
   have KA := ζ (fun (W : World) (hW : MapI W (w.heap.size + 1) n m) (hB : Below w.heap.size w W) => have hR := HR.out.up hB;arityCalls b1 (o1 + k * 4) (w.heap.size + 1) n m x.head tv W hR.c1 hR.c2 hR.t hW hnx (by have := HN.out.h;unfold maxLen;omega) (by have := HS.out.h1;omega))
   cases hf : fits m x.head
   ·rw [hf] at KA
    have HE := ζ (HP.out.trans (wrongFrom_unfit HZ.out (by show (fits m x.head && _) = false;rw [hf];rfl)))
    clear hf
    go_wp2_with (first
     | (go_at_call 56;refine (KR.out).mono ?_;rintro e w1 ⟨rfl,hf1⟩;have HB1 := ζ (HB.out.trans (hf1.mono HB.out.size));have HK1 := ζ (HK.out.below hf1 HK.out.lt);have HM1 := ζ (HM.out.below hf1 hmb);clear hf1)
     | (go_at_call 57;refine (KA.out _ HM1.out HB1.out).mono ?_;rintro e w2 ⟨rfl,-,hg2⟩;have HB2 := ζ (HB1.out.grown hg2 HB1.out.size HNE.out);have HK2 := ζ (HK1.out.grown hg2 (by simp));have c0 := HK2.out.cell 0;have c1 := HK2.out.cell 1;have f0 := HK2.out.frozen 0;have f1 := HK2.out.frozen 1;simp at c0 c1;clear hg2))
    go_wp2
    refine bodyPost_ret (v := .agg #[.int .i64 8,.int .i64 k]) (by simp [results,Tryz.results34,go_sem,c0,c1]) rfl ⟨by rw [HE.out],?_⟩
    exact (HB2.out.setCell (ζn _) _).setCell (ζn _) _
   rw [hf] at KA
   have HF := ζ (show fitAll m (x.head :: x.body) = fitAll (learn m x.head) x.body by show (fits m x.head && _) = _;rw [hf];rfl)
   clear hf
   obtain ⟨ba,bc,rfl,-,-,-⟩ := id HR.out.b.form
   go_wp2_with (first
    | (go_at_call 56;refine (KR.out).mono ?_;rintro e w1 ⟨rfl,hf1⟩;have HB1 := ζ (HB.out.trans (hf1.mono HB.out.size));have HK1 := ζ (HK.out.below hf1 HK.out.lt);have HM1 := ζ (HM.out.below hf1 hmb);clear hf1)
    | (go_at_call 57;refine (KA.out _ HM1.out HB1.out).mono ?_;rintro e w2 ⟨rfl,hm2,hg2⟩;have HB2 := ζ (HB1.out.grown hg2 HB1.out.size HNE.out);have HK2 := ζ (HK1.out.grown hg2 (by simp));have HM2 := ζ hm2;have c3 := (HR.out.up HB2.out).c3;clear hg2 hm2))
   clear c3 HM1 HK1 HB1 HM HK HB hpre
   have hn6 : n + 1 ≤ k * 6 + 1 := by omega
   go_loopw [41] (fun i wr => ∃ (j n' : Nat) (m' : Known),j ≤ x.body.length ∧ i = .int .i64 j ∧ n' ≤ k * 6 + 1 + j ∧ Hid (MapI wr (w.heap.size + 1) n' m') ∧ Hid (Blk wr w.heap.size 49 #[.int .i64 0,.int .i64 0]) ∧ Hid (Below w.heap.size w wr) ∧ Hid (fitAll m (x.head :: x.body) = fitAll m' (x.body.drop j) ∧ learnAll m (x.head :: x.body) = learnAll m' (x.body.drop j))) (fun i _ => x.body.length - (intOf i).toNat)
   case atStart => exact ⟨0,n + 1,_,Nat.zero_le _,rfl,by omega,HM2,HK2,HB2,ζ ⟨HF.out,rfl⟩⟩
   case round =>
    clear HM2 HK2 HB2 HF KA KR
    obtain ⟨j,n',m',hj,rfl,hn',HM,HK,HB,HF⟩ := hrel
    have c3 := (HR.out.up HB.out).c3
    by_cases hlj : j < x.body.length
    ·obtain ⟨y,hy⟩ : ∃ y,x.body[j]? = some y := ⟨_,ζe hlj⟩
     obtain ⟨b4,o4,yv,rfl,-,hb4,e0,e1,e2,hyv⟩ := RdAtoms.at ((HR.out.up HB.out).b) hy
     have ny := HS.out.b1 y (ζm hy)
     have hnx2 : n' < maxLen := by unfold maxLen;omega
     have KA := ζ (arityCalls b4 (o4 + j * 3) (w.heap.size + 1) n' m' y yv wr e1 e2 hyv HM.out hnx2 (by have := HN.out.b y (ζm hy);unfold maxLen;omega) (by omega))
     rw [at_drop hy] at HF
     clear hy hyv e0 e1 e2 ny
     cases hf : fits m' y
     ·rw [hf] at KA
      have HE := ζ (HP.out.trans (wrongFrom_unfit HZ.out (by rw [HF.out.1];show (fits m' y && _) = false;rw [hf];rfl)))
      clear hf
      go_wp2_with (go_at_call 57;refine (KA.out).mono ?_;rintro e w2 ⟨rfl,-,hg2⟩;have HB2 := ζ (HB.out.grown hg2 HB.out.size HNE.out);have HK2 := ζ (HK.out.grown hg2 (by simp));have c0 := HK2.out.cell 0;have c1 := HK2.out.cell 1;have f0 := HK2.out.frozen 0;have f1 := HK2.out.frozen 1;simp at c0 c1;clear hg2)
      go_wp2
      refine bodyPost_ret (v := .agg #[.int .i64 8,.int .i64 k]) (by simp [results,Tryz.results34,go_sem,c0,c1]) rfl ⟨by rw [HE.out],?_⟩
      exact (HB2.out.setCell (ζn _) _).setCell (ζn _) _
     ·rw [hf] at KA
      have HF2 := ζ (show fitAll m (x.head :: x.body) = fitAll (learn m' y) (x.body.drop (j + 1)) ∧ learnAll m (x.head :: x.body) = learnAll (learn m' y) (x.body.drop (j + 1)) from ⟨HF.out.1.trans (by show (fits m' y && _) = _;rw [hf];rfl),HF.out.2⟩)
      clear hf
      go_wp2_with (go_at_call 57;refine (KA.out).mono ?_;rintro e w2 ⟨rfl,hm2,hg2⟩;have HB2 := ζ (HB.out.grown hg2 HB.out.size HNE.out);have HK2 := ζ (HK.out.grown hg2 (by simp));have HM2 := ζ hm2;clear hg2 hm2)
      go_wp2
      go_roundw
      case rel => exact ⟨j + 1,n' + 1,_,by omega,by go_num,by omega,HM2,HK2,HB2,HF2⟩
      case measure => simp [intOf];omega
    ·have HF2 := ζ (show wrongP p = wrongFrom m' ((k + 1 : Nat) : Int) (p.drop (k + 1)) by
      have h1 := HF.out
      rw [List.drop_eq_nil_of_le (show x.body.length ≤ j by omega)] at h1
      have := HP.out.trans (wrongFrom_fit HZ.out (h1.1.trans rfl))
      rw [h1.2] at this
      rw [this]
      show wrongFrom m' _ _ = _
      congr 1)
     go_wp2
     go_roundw
     case rel => exact ⟨k + 1,n',m',by omega,by go_num,by omega,HM,HK,HB,HF2⟩
     case measure => simp [intOf];omega
  ·have HE := ζ (show wrongP p = (0,0) by rw [HP.out,List.drop_eq_nil_of_le (by omega)];rfl)
   have c0 := HK.out.cell 0;have c1 := HK.out.cell 1;have f0 := HK.out.frozen 0;have f1 := HK.out.frozen 1
   simp at c0 c1
   go_wp2
   refine bodyPost_ret (v := .agg #[.int .i64 0,.int .i64 0]) (by simp [results,Tryz.results34,go_sem,c0,c1]) rfl ⟨by rw [HE.out],?_⟩
   exact (HB.out.setCell (ζn _) _).setCell (ζn _) _
end
end Go.Proofs.YtdngkcieckejoaaGreat
