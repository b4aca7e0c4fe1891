/-
  THE TEXTS SortG, TidyW1, TidyW2, TidyW3, CompW, TidyW, one behind the other.
-/
import Derived.Test.YtdngkcieckejoaaGreatPk1
import Derived.Test.YtdngkcieckejoaaGreatPk2
import Derived.Test.YtdngkcieckejoaaGreatPk6
import Derived.Shelf.SlSortCmp.WholeK
import Derived.Shelf.SlSortCmp.NoneTotal
import Derived.Deep.QuietTactic
import Derived.BigQuiet
import Derived.Laws.StructEq
import Derived.Laws.EntriesVeiled
namespace Go.Proofs.YtdngkcieckejoaaGreat
section
open Go.RowKit Go.Sort Go.Shelf
theorem flatK_toList {α : Type} [Inhabited α] (enc : α → List Value) (k : Nat) (hk : ∀ x,(enc x).length = k) (d : Array α) : (flatK enc k d).toList = (d.toList.map enc).flatten := by
 have hlen : ((d.toList.map enc).flatten).length = d.size * k := by
  have : ∀ l : List α,((l.map enc).flatten).length = l.length * k := by
   intro l
   induction l with
   | nil => simp
   | cons x l ih => rw [List.map_cons,List.flatten_cons,List.length_append,ih,hk,List.length_cons,Nat.add_mul];omega
  simpa using this d.toList
 apply List.ext_getElem?
 intro t
 by_cases ht : t < d.size * k
 ·have k0 : 0 < k := by
   rcases Nat.eq_zero_or_pos k with h | h
   ·subst h;omega
   ·exact h
  have hi : t / k < d.size := Nat.div_lt_of_lt_mul (by rw [Nat.mul_comm];exact ht)
  have hj : t % k < k := Nat.mod_lt _ k0
  have h1 : (flatK enc k d).toList[t]? = some (enc d[t / k]!)[t % k]! := by
   have := get_flatK enc k d t ht
   rw [Array.getElem?_toList]
   rw [Array.getElem!_eq_getD,Array.getD] at this
   simp only [size_flatK,ht,dite_true] at this
   rw [Array.getElem?_eq_getElem (by simpa using ht)]
   exact congrArg some this
  rw [h1]
  have hx : (d.toList.map enc)[t / k]? = some (enc d[t / k]!) := by
   rw [List.getElem?_map,Array.getElem?_toList,Array.getElem?_eq_getElem hi,getElem!_pos d _ hi];rfl
  have hu : (enc d[t / k]!)[t % k]? = some (enc d[t / k]!)[t % k]! := by
   rw [ζe (by rw [hk];exact hj),List.getElem!_eq_getElem?_getD,ζe (by rw [hk];exact hj)];rfl
  have := flatten_get (k := k) (d.toList.map enc) (by intro cs hcs;obtain ⟨x,_,rfl⟩ := List.mem_map.1 hcs;exact hk x) (t / k) _ (t % k) _ hx hu
  rw [Nat.mul_comm,Nat.div_add_mod] at this
  exact this.symm
 ·rw [List.getElem?_eq_none (by simp;omega),List.getElem?_eq_none (by omega)]
theorem heap_sortedK {α : Type} [Inhabited α] {enc : α → List Value} {k : Nat} {w : World} {g n : Nat} {os : Array Obj} {cur : Array Value} {e : TypeId} {fr : Nat × Nat} (d : Array α) (hb : w.heap[g]? = some (.cells cur e fr)) :
 (sortWorldK enc k w g 0 n d os).heap[g]? = some (.cells (putCells id 0 (flatK enc k d) cur) e fr) := by
 have hg : g < w.heap.size := (Array.getElem?_eq_some_iff.1 hb).1
 unfold sortWorldK
 rw [heap_grow_old _ _ (by simpa [putRowK] using hg)]
 simp [putRowK,putRow,mapBlock,Sort.ahead,Array.getElem?_modify,hb,onCells]
theorem grownBy_sortedK {α : Type} [Inhabited α] {enc : α → List Value} {k : Nat} {w : World} {g off n : Nat} {os : Array Obj} (d : Array α) : w.grownBy (sortWorldK enc k w g off n d os) (some g) := by
 refine ⟨rfl,rfl,rfl,by simp [sortWorldK,putRowK],fun q hq hne => ?_⟩
 unfold sortWorldK
 rw [heap_grow_old _ _ (by simpa [putRowK] using hq)]
 have : g ≠ q := fun e => hne (by rw [e])
 simp [putRowK,putRow,mapBlock,Sort.ahead,Array.getElem?_modify,this]
theorem take_putK (F cur : Array Value) (h : F.size ≤ cur.size) : (putCells id 0 F cur).toList.take F.size = F.toList := by
 apply List.ext_getElem?
 intro j
 by_cases hj : j < F.size
 ·rw [List.getElem?_take_of_lt hj,Array.getElem?_toList,Array.getElem?_toList]
  simp [putCells,hj,show j < cur.size by omega]
 ·rw [List.getElem?_take_eq_none (by omega),List.getElem?_eq_none (by simp;omega)]
structure VElem (α : Type) (k : Nat) (R : Reader α) (Q : α → Prop) (S : Nat → Prop) (w : World) where
 cells : List Value
 val : α
 len : cells.length = k
 rd : R S w cells val
 q : Q val
set_option maxHeartbeats 0 in
theorem sort_owned {P : Program} {ρ : Ren} (L : SlLaysF0.n6 P ρ) {α : Type} {k : Nat} {R : Reader α} (hR : Steady R) (hcell : ∀ {S w cs x},R S w cs x → ∀ u ∈ cs,u.oneCell' = true) (Q : α → Prop)
 (aE : ∀ w,(isAgg (ρ.t 24)).run P w = .ok true w) (zE : ∀ w,(Go.sizeOf (ρ.t 24)).run P w = .ok k w) {cf : α → α → Int} (c3 : Cmp3 cf) (g : Nat) (eg : ∀ args w,(callFunc g args).run P w = .ok (.enter g args) w)
 (hC : ∀ {S : Nat → Prop} (W : World) (x y : α) (cx cy : List Value),R S W cx x → R S W cy y → Q x → Q y → Calls P g #[.agg cx.toArray,.agg cy.toArray] W fun e w' => e = .returned (.int .i64 (cf x y)) ∧ Fresh W w')
 {B : Nat} {e : TypeId} {S : Nat → Prop} {w : World} {v : Value} {l : List α} (hown : Owned k R B e S w v l) (hQ : ∀ x ∈ l,Q x) (hsz : l.length < 4611686018427387904) :
 Calls P (ρ.f 6) #[v,.func (.func g) #[] #[]] w fun en w' => en = .returned (.tuple #[]) ∧ ∃ l',l'.Perm l ∧ l'.Pairwise (fun a b => ¬ cf b a < 0) ∧ Owned k R B e S w' v l' ∧ w.grownBy w' v.ownBlock := by
 have hO := hown
 obtain ⟨css,hl,hk,ho,hr⟩ := hown
 rcases hempty : l with _ | ⟨x0,l0⟩
 ·subst hempty
  obtain ⟨p,cap,hv⟩ : ∃ p cap,v = .slice p 0 cap := by
   rcases ho.2 with ⟨hv,_⟩ | ⟨g,cap,cur,hv,_⟩
   ·exact ⟨none,0,hv⟩
   ·exact ⟨_,cap,hv⟩
  subst hv
  refine (AnyF.slices_SortFunc_none { L with } p cap _ w).mono fun en w' ⟨he,hw⟩ => ?_
  subst hw
  exact ⟨he,[],List.Perm.refl _,List.Pairwise.nil,hO,⟨rfl,rfl,rfl,ζn _,fun _ _ _ => rfl⟩⟩
 ·rw [← hempty]
  have hpos : 0 < l.length := by rw [hempty];simp
  rcases ho.2 with ⟨_,h0⟩ | ⟨b,cap,cur,rfl,hbB,hb,hnc,hcm,hcs,htake⟩
  ·omega
  ·let E := VElem α k R Q (fun q => S q ∧ some q ≠ (Value.slice (some ⟨b,0,none⟩) l.length cap).ownBlock) w
   have mk : ∀ i,i < l.length → ∃ E0 : E,css[i]? = some E0.cells ∧ l[i]? = some E0.val := fun i hi => by
    have h1 : css[i]? = some css[i] := ζe (by omega)
    have h2 : l[i]? = some l[i] := ζe hi
    exact ⟨⟨css[i],l[i],hk _ (List.getElem_mem _),hr i _ _ h1 h2,hQ _ (List.getElem_mem _)⟩,h1,h2⟩
   letI : Inhabited E := ⟨(mk 0 hpos).choose⟩
   obtain ⟨dl,hd1,hd2⟩ : ∃ dl : List E,dl.map (·.cells) = css ∧ dl.map (·.val) = l := by
    have main : ∀ n,n ≤ l.length → ∃ dl : List E,dl.map (·.cells) = css.take n ∧ dl.map (·.val) = l.take n := by
     intro n
     induction n with
     | zero => exact fun _ => ⟨[],by simp,by simp⟩
     | succ n ih =>
      intro hn
      obtain ⟨dl,g1,g2⟩ := ih (by omega)
      obtain ⟨E0,e1,e2⟩ := mk n (by omega)
      exact ⟨dl ++ [E0],by rw [List.map_append,g1,List.take_add_one,e1];rfl,by rw [List.map_append,g2,List.take_add_one,e2];rfl⟩
    obtain ⟨dl,g1,g2⟩ := main l.length (ζn _)
    exact ⟨dl,by rw [g1,← hl,List.take_length],by rw [g2,List.take_length]⟩
   have hdl : dl.length = l.length := by rw [← hd2];simp
   have hkE : ∀ x : E,x.cells.length = k := fun x => x.len
   have hfl : (flatK (fun x : E => x.cells) k dl.toArray).toList = css.flatten := by rw [flatK_toList _ k hkE,← hd1]
   have hfs : (flatK (fun x : E => x.cells) k dl.toArray).size = l.length * k := by simp [hdl]
   have hH : HoldsK (fun x : E => x.cells) k w b 0 dl.toArray := by
    intro j hj
    rw [hfs] at hj
    have h1 : (flatK (fun x : E => x.cells) k dl.toArray)[j]? = cur[j]? := by
     rw [← Array.getElem?_toList,hfl,← htake,List.getElem?_take_of_lt hj,Array.getElem?_toList]
    refine ⟨?_,by simp [World.frozen?,hb]⟩
    simp only [World.cell?,hb,Nat.zero_add,Option.isSome_none,Bool.false_eq_true,if_false]
    rw [← h1,Array.getElem?_eq_getElem (by rw [hfs];exact hj),getElem!_pos _ _ (by rw [hfs];exact hj)]
    rfl
   have hcmp : CmpLays P g #[] (fun x : E => x.cells) k (fun x y => cf x.val y.val) b 0 dl.toArray.size w := by
    intro m os dk hdk x y
    have hag : Agree (fun q => S q ∧ some q ≠ (Value.slice (some ⟨b,0,none⟩) l.length cap).ownBlock) w (sortWorldK (fun x : E => x.cells) k w b 0 m dk os) := by
     have := grownBy_sortedK (enc := fun x : E => x.cells) (k := k) (w := w) (g := b) (off := 0) (n := m) (os := os) dk
     exact ⟨this.size,fun q hq hlt => this.block q hlt hq.2⟩
    have := hC (sortWorldK (fun x : E => x.cells) k w b 0 m dk os) x.val y.val x.cells y.cells (hR.agree hag x.rd) (hR.agree hag y.rd) x.q y.q
    rw [Array.append_empty]
    exact this.mono fun en w' ⟨he,q,os',hw⟩ => ⟨he,q,os',hw⟩
   have hSWO : SWO (ltOf fun x y : E => cf x.val y.val) :=
    ⟨fun x => by simp [ltOf,c3.self],fun x y z h1 h2 => by simp only [ltOf,decide_eq_true_eq] at *;exact c3.trans _ _ _ h1 h2,fun x y z h1 h2 => by
     simp only [ltOf,decide_eq_false_iff_not] at *
     intro h3
     by_cases e1 : x.val = y.val
     ·rw [e1] at h3;exact h2 h3
     ·have h4 : cf y.val x.val < 0 := by have := c3.ne_zero e1;have := c3.anti y.val x.val;omega
      exact h2 (c3.trans _ _ _ h4 h3)⟩
   have hlt : b < w.heap.size := (Array.getElem?_eq_some_iff.1 hb).1
   have hsort := AnyQ.slices_SortFunc L k aE zE (fun x : E => x.cells) hkE (fun x => hcell x.rd) (fun x y => cf x.val y.val) hSWO g #[] b 0 cap dl.toArray w eg hcmp hH hlt (by simpa [hdl] using hsz)
   have hsize : dl.toArray.size = l.length := by simp [hdl]
   rw [hsize] at hsort
   refine hsort.mono fun en w' ⟨he,d',n,os,hperm,hsorted,hw⟩ => ⟨he,d'.toList.map (·.val),?_,?_,?_,?_⟩
   ·have h1 := hperm.2.2
    have e1 : d'.extract 0 l.length = d' := by rw [← hsize,← hperm.1];simp
    have e2 : dl.toArray.extract 0 l.length = dl.toArray := by rw [← hsize];simp
    rw [e1,e2] at h1
    have := h1.map (fun x : E => x.val)
    rw [show dl.toArray.toList = dl by simp,hd2] at this
    exact this
   ·rw [List.pairwise_map]
    refine List.pairwise_iff_getElem.2 fun i j hi hj hij => ?_
    have hs := hsorted i j (Nat.zero_le _) hij (by rw [← hsize,← hperm.1];simpa using hj)
    simp only [ltOf,decide_eq_false_iff_not] at hs
    rw [getElem!_pos d' j (by simpa using hj),getElem!_pos d' i (by simpa using hi)] at hs
    exact hs
   ·subst hw
    have hd' : d'.size = l.length := by rw [hperm.1,hsize]
    have hg := grownBy_sortedK (enc := fun x : E => x.cells) (k := k) (w := w) (g := b) (off := 0) (n := n) (os := os) d'
    refine ⟨d'.toList.map (·.cells),by simp,?_,⟨?_,.inr ⟨b,cap,_,by simp [hd'],hbB,heap_sortedK d' hb,by simpa [hd'] using hnc,hcm,by simp [putCells,hcs],?_⟩⟩,?_⟩
    ·intro cs hcs'
     obtain ⟨x,_,rfl⟩ := List.mem_map.1 hcs'
     exact x.len
    ·rw [← flatK_toList _ k hkE];simp
    ·have hf : (flatK (fun x : E => x.cells) k d').size = d'.size * k := by simp
     have := take_putK (flatK (fun x : E => x.cells) k d') cur (by rw [hf,hcs,hd'];exact Nat.mul_le_mul_right _ hnc)
     rw [hf] at this
     rw [List.length_map,Array.length_toList,this,flatK_toList _ k hkE]
    ·intro i cs x hcs' hx'
     rw [List.getElem?_map] at hcs' hx'
     cases hi : d'.toList[i]? with
     | none => rw [hi] at hcs';cases hcs'
     | some E0 =>
      rw [hi] at hcs' hx'
      obtain rfl : E0.cells = cs := by simpa using hcs'
      obtain rfl : E0.val = x := by simpa using hx'
      exact hR.agree ⟨hg.size,fun q hq hlt => hg.block q hlt hq.2⟩ E0.rd
   ·subst hw
    exact grownBy_sortedK d'
end
section
open Go.RowKit Go.Shelf Go.Sort
theorem cmpOr2 (p q : Int) (w : World) (b : Nat) (h : w.heap[b]? = some (.cells #[.int .i64 p,.int .i64 q] 3 (0,0))) :
 Calls Tryz.prog 59 #[.slice (some ⟨b,0,none⟩) 2 2] w fun e w' => e = .returned (.int .i64 (orInt [p,q])) ∧ w = w' :=
 cmpOr (S := fun _ => True) _ [p,q] w (RdInts.block rfl h trivial (by unfold maxLen;omega)) (by simp)
attribute [local go_sem ↓] Go.wp_at_zero Go.wp_at_succ
set_option maxHeartbeats 0 in
theorem orderCalls (f g : PBind) (w : World) :
 Calls Tryz.prog 108 #[.agg #[.string f.var,.string f.name],.agg #[.string g.var,.string g.name]] w fun e w' => e = .returned (.int .i64 (cmpBind f g)) ∧ Fresh w w' := by
 have e3 : cmpBind f g = orInt [cmpStr f.var g.var,cmpStr f.name g.name] := rfl
 rw [e3]
 clear e3
 go_enter Tryz.func108,Tryz.ntmps108
 go_wp2_with fail
 go_region_held3 (fun w' => w'.cell? ⟨w.heap.size,0,none⟩ = some (.string f.var) ∧ w'.cell? ⟨w.heap.size,1,none⟩ = some (.string f.name) ∧
  w'.cell? ⟨w.heap.size + 1,0,none⟩ = some (.string g.var) ∧ w'.cell? ⟨w.heap.size + 1,1,none⟩ = some (.string g.name)) (go_keep)
  (first
   | (go_at_call 60;refine (compareStr _ _ _).mono ?_;rintro e w' ⟨rfl,rfl⟩)
   | (go_at_call 59;refine (cmpOr2 (cmpStr f.var g.var) (cmpStr f.name g.name) _ _ ?_).mono ?_;(exact heap_new_at (by simp));rintro e w' ⟨rfl,rfl⟩))
 go_wp2
 go_ret
 exact ⟨rfl,((((Fresh.refl _).alloc _).alloc _).alloc _).drew⟩
theorem enterOrder : ∀ args w,(callFunc 108 args).run Tryz.prog w = .ok (.enter 108 args) w := enters_of Tryz.func108 (by kernel_rfl) rfl
theorem sortBind {B : Nat} {w : World} {v : Value} {l : Binds} (hown : OB B w v l) (n1 : l.length ≤ 1073741824) :
 Calls Tryz.prog 109 #[v,.func (.func 108) #[] #[]] w fun en w' => en = .returned (.tuple #[]) ∧ ∃ l',l'.Perm l ∧ l'.Pairwise (fun a b => ¬ cmpBind b a < 0) ∧ OB B w' v l' ∧ w.grownBy w' v.ownBlock :=
 sort_owned Tryz.sortBind RBind.steady RBind.one (fun _ => True) Tryz.isAgg110 Tryz.sizeOf110 cmpBind3 108 enterOrder
  (fun W x y cx cy hx hy _ _ => by
   have hx' : cx = [.string x.var,.string x.name] := hx
   have hy' : cy = [.string y.var,.string y.name] := hy
   subst hx'
   subst hy'
   exact orderCalls x y W)
  hown (fun _ _ => trivial) (by omega)
set_option maxRecDepth 100000 in
set_option maxHeartbeats 0 in
theorem compareBinds {S T : Nat → Prop} (va vb : Value) (a b : Binds) (w : World) (ha : RdBinds S w va a) (hb : RdBinds T w vb b) (n1 : a.length ≤ 1073741824) (_ : b.length ≤ 1073741824) :
 Calls Tryz.prog 112 #[va,vb,.func (.func 108) #[] #[]] w fun e w' => e = .returned (.int .i64 (cmpBinds a b)) ∧ Fresh w w' := by
 obtain ⟨aa,ac,rfl,-,-,-⟩ := id ha.form
 obtain ⟨ba,bc,rfl,-,-,-⟩ := id hb.form
 have HA := ζ ha
 have HB := ζ hb
 clear ha hb
 go_enter Tryz.func112,Tryz.ntmps112
 go_wp2
 go_loopw [13,7] (fun i _ wr => ∃ k : Nat,k ≤ a.length ∧ k ≤ b.length ∧ i = .int .i64 k ∧ Hid (cmpBinds a b = cmpLst cmpBind (a.drop k) (b.drop k)) ∧ Hid (Fresh w wr)) (fun i _ _ => a.length - (intOf i).toNat)
 case atStart => exact ⟨0,Nat.zero_le _,Nat.zero_le _,rfl,ζ rfl,ζ (Fresh.refl _)⟩
 case round =>
  obtain ⟨k,hk,hk2,rfl,HR,HF⟩ := hrel
  by_cases hlt : k < a.length
  ·obtain ⟨x,hx⟩ : ∃ x,a[k]? = some x := ⟨_,ζe hlt⟩
   obtain ⟨b1,o1,rfl,-,-,d0,d1⟩ := RdBinds.at (HA.out.up HF.out.below) hx
   by_cases hlt2 : k < b.length
   ·obtain ⟨y,hy⟩ : ∃ y,b[k]? = some y := ⟨_,ζe hlt2⟩
    obtain ⟨b2,o2,rfl,-,hbb,f0,f1⟩ := RdBinds.at (HB.out.up HF.out.below) hy
    have HD := ζ (show cmpBinds a b = if cmpBind x y ≠ 0 then cmpBind x y else cmpLst cmpBind (a.drop (k + 1)) (b.drop (k + 1)) by rw [HR.out,drop_cons hx,drop_cons hy];rfl)
    have KO := ζ (fun W => orderCalls x y W)
    have i1 : ¬ (b.length : Int) ≤ (k : Int) := by omega
    have HF1 := ζ ((HF.out.alloc (.cells #[.string x.var,.string x.name] 110)).alloc (.cells #[.string y.var,.string y.name] 110))
    have j0 : (0 : Int) ≤ (k : Int) := by omega
    have j1 : (k : Int) < (b.length : Int) := by omega
    have j2 : IntKind.i64.wrap (k : Int) = k := by rw [IntKind.wrap_i64];omega
    clear hx hy HR
    obtain ⟨q,hq⟩ : ∃ q,cmpBind x y = q := ⟨_,rfl⟩
    rw [hq] at HD KO
    clear hq
    by_cases hz : q = 0
    ·subst hz
     rw [if_neg (by simp)] at HD
     go_wp2_with (go_at_call 108;refine (KO.out _).mono ?_;rintro e w1 ⟨rfl,hf1⟩;have HF2 := ζ (HF1.out.trans hf1);clear hf1)
     go_roundw
     case rel => exact ⟨k + 1,by omega,by omega,by go_num,HD,HF2⟩
     case measure => simp [intOf];omega
    ·have gz : (q != 0) = true := by simp [hz]
     rw [if_pos hz] at HD
     clear hz
     go_wp2_with (go_at_call 108;refine (KO.out _).mono ?_;rintro e w1 ⟨rfl,hf1⟩;have HF2 := ζ (HF1.out.trans hf1);clear hf1)
     go_ret
     exact ⟨ret_int HD.out.symm,HF2.out⟩
   ·have i1 : (b.length : Int) ≤ (k : Int) := by omega
    have HE := ζ (show cmpBinds a b = 1 by rw [HR.out,drop_cons hx,drop_end (by omega : b.length ≤ k)];rfl)
    clear hx HR
    go_wp2
    go_ret
    exact ⟨ret_int HE.out.symm,HF.out.alloc _⟩
  ·by_cases hlt2 : a.length < b.length
   ·have i1 : (a.length : Int) < (b.length : Int) := by omega
    obtain ⟨y,hy⟩ : ∃ y,b[k]? = some y := ⟨_,ζe (by omega)⟩
    have HE := ζ (show cmpBinds a b = -1 by rw [HR.out,drop_end (by omega : a.length ≤ k),drop_cons hy];rfl)
    clear hy HR
    go_wp2
    go_ret
    exact ⟨ret_int HE.out.symm,HF.out⟩
   ·have i1 : ¬ (a.length : Int) < (b.length : Int) := by omega
    have HE := ζ (show cmpBinds a b = 0 by rw [HR.out,drop_end (by omega : a.length ≤ k),drop_end (by omega : b.length ≤ k)];rfl)
    clear HR
    go_wp2
    go_ret
    exact ⟨ret_int HE.out.symm,HF.out⟩
theorem tidy2Calls {S T : Nat → Prop} (va vb : Value) (a b : Binds) (w : World) (O : Nat) (h0 : Blk w O 156 #[.func (.func 108) #[] #[]]) (ha : RdBinds S w va a) (hb : RdBinds T w vb b) (n1 : a.length ≤ 1073741824) (n2 : b.length ≤ 1073741824) :
 Calls Tryz.prog 111 #[va,vb,.pointer (some ⟨O,0,none⟩)] w fun e w' => e = .returned (.int .i64 (cmpBinds a b)) ∧ Fresh w w' := by
 have K := ζ (compareBinds va vb a b w ha hb n1 n2)
 have c0 : w.cell? ⟨O,0,none⟩ = some (.func (.func 108) #[] #[]) := h0.cell 0
 obtain ⟨aa,ac,rfl,-,-,-⟩ := id ha.form
 obtain ⟨ba,bc,rfl,-,-,-⟩ := id hb.form
 clear ha hb h0
 go_enter Tryz.func111,Tryz.ntmps111
 go_wp2_with (go_at_call 112;refine (K.out).mono ?_;rintro e w1 ⟨rfl,hf1⟩;have HF := ζ hf1;clear hf1)
 go_ret
 exact ⟨rfl,HF.out⟩
end
section
open Go.RowKit Go.Shelf Go.Sort
theorem heap_sorted1 {α : Type} [Inhabited α] {enc : α → Value} {w : World} {g n : Nat} {os : Array Obj} {cur : Array Value} {e : TypeId} {fr : Nat × Nat} (d : Array α) (hb : w.heap[g]? = some (.cells cur e fr)) :
 (sortWorld enc w g 0 n d os).heap[g]? = some (.cells (putCells enc 0 d cur) e fr) := by
 have hg : g < w.heap.size := (Array.getElem?_eq_some_iff.1 hb).1
 unfold sortWorld
 rw [heap_grow_old _ _ (by simpa [putRow,mapBlock,Sort.ahead] using hg)]
 simp [putRow,mapBlock,Sort.ahead,Array.getElem?_modify,hb,onCells]
theorem grownBy_sorted1 {α : Type} [Inhabited α] {enc : α → Value} {w : World} {g off n : Nat} {os : Array Obj} (d : Array α) : w.grownBy (sortWorld enc w g off n d os) (some g) := by
 refine ⟨rfl,rfl,rfl,by simp [sortWorld,putRow,mapBlock,Sort.ahead],fun q hq hne => ?_⟩
 unfold sortWorld
 rw [heap_grow_old _ _ (by simpa [putRow,mapBlock,Sort.ahead] using hq)]
 have : g ≠ q := fun e => hne (by rw [e])
 simp [putRow,mapBlock,Sort.ahead,Array.getElem?_modify,this]
theorem take_put1 {α : Type} [Inhabited α] (enc : α → Value) (d : Array α) (cur : Array Value) (h : d.size ≤ cur.size) : (putCells enc 0 d cur).toList.take d.size = d.toList.map enc := by
 apply List.ext_getElem?
 intro j
 by_cases hj : j < d.size
 ·rw [List.getElem?_take_of_lt hj,Array.getElem?_toList,List.getElem?_map,Array.getElem?_toList]
  simp [putCells,hj,show j < cur.size by omega]
 ·rw [List.getElem?_take_eq_none (by omega),List.getElem?_eq_none (by simp;omega)]
theorem enterTidy2 : ∀ args w,(callFunc 111 args).run Tryz.prog w = .ok (.enter 111 args) w := enters_of Tryz.func111 (by kernel_rfl) rfl
theorem Nest.perm {B : Nat} {w w' : World} {v : Value} {zs ys : List VB} (h : Nest B w v zs) (hp : ys.Perm zs) (ho : OV B w' v ys) (hg : w.grownBy w' v.ownBlock) : Nest B w' v ys :=
 ⟨ho,fun z hz => (h.inner z (hp.mem_iff.1 hz)).kept RBind.steady hg (fun q hq e => h.off z (hp.mem_iff.1 hz) q hq e),
  (hp.pairwise_iff (fun {a b} (hab : ∀ q,a.1.ownBlock = some q → b.1.ownBlock ≠ some q) q hq e => hab q e hq)).2 h.apart,fun z hz => h.off z (hp.mem_iff.1 hz)⟩
set_option maxHeartbeats 0 in
theorem sortNest {B O : Nat} {w : World} {v : Value} {zs : List VB} (hN : Nest B w v zs) (h0 : Blk w O 156 #[.func (.func 108) #[] #[]]) (hO : some O ≠ v.ownBlock) (n1 : zs.length ≤ 1073741824) (n2 : ∀ z ∈ zs,z.2.length ≤ 1073741824) :
 Calls Tryz.prog 110 #[v,.func (.func 111) #[] #[.pointer (some ⟨O,0,none⟩)]] w fun en w' => en = .returned (.tuple #[]) ∧ ∃ zs',zs'.Perm zs ∧ zs'.Pairwise (fun a b => ¬ cmpBinds b.2 a.2 < 0) ∧ Nest B w' v zs' ∧ w.grownBy w' v.ownBlock := by
 obtain ⟨ho,h1⟩ := hN.outer.row
 rcases hempty : zs with _ | ⟨x0,l0⟩
 ·subst hempty
  obtain ⟨p,cap,hv⟩ : ∃ p cap,v = .slice p 0 cap := by
   rcases ho.2 with ⟨hv,_⟩ | ⟨g,cap,cur,hv,_⟩
   ·exact ⟨none,0,hv⟩
   ·exact ⟨_,cap,hv⟩
  subst hv
  refine (AnyF.slices_SortFunc_none (L := { Tryz.sortBinds with }) p cap _ w).mono fun en w' ⟨he,hw⟩ => ?_
  subst hw
  exact ⟨he,[],List.Perm.refl _,List.Pairwise.nil,hN,⟨rfl,rfl,rfl,ζn _,fun _ _ _ => rfl⟩⟩
 ·rw [← hempty]
  have hpos : 0 < zs.length := by rw [hempty];simp
  rcases id ho.2 with ⟨_,h0⟩ | ⟨b,cap,cur,rfl,hbB,hb,hnc,hcm,hcs,htake⟩
  ·omega
  ·let E := { z : VB // z ∈ zs }
   letI : Inhabited E := ⟨⟨x0,by rw [hempty];simp⟩⟩
   let enc : E → Value := fun x => x.1.1
   let d : Array E := zs.attach.toArray
   have hd : d.toList.map (·.1) = zs := by show (zs.attach.toArray.toList).map (·.1) = zs;rw [List.toList_toArray];exact List.attach_map_subtype_val zs
   have hde : d.toList.map enc = zs.map (·.1) := by
    have h2 : d.toList.map enc = (d.toList.map (·.1)).map (·.1) := by rw [List.map_map];rfl
    rw [h2,hd]
   have hds : d.size = zs.length := by show zs.attach.toArray.size = _;rw [List.size_toArray];exact List.length_attach
   have hH : Holds enc w b 0 d := by
    intro j hj
    rw [hds] at hj
    have h2 := ho.cellAt j (by omega)
    refine ⟨?_,ho.frozenAt _⟩
    rw [Nat.zero_add,h2,← hde,List.getElem?_map,Array.getElem?_toList,Array.getElem?_eq_getElem (by omega),getElem!_pos d j (by omega)]
    rfl
   have hcmp : CmpLays1 Tryz.prog 111 #[.pointer (some ⟨O,0,none⟩)] enc (fun x y => cmpBinds x.1.2 y.1.2) b 0 d.size w := by
    intro m os dk hdk x y
    have hg := grownBy_sorted1 (enc := enc) (w := w) (g := b) (off := 0) (n := m) (os := os) dk
    have hx := (hN.inner x.1 x.2).kept RBind.steady hg (fun q hq e => hN.off x.1 x.2 q hq (by rw [← e];rfl))
    have hy := (hN.inner y.1 y.2).kept RBind.steady hg (fun q hq e => hN.off y.1 y.2 q hq (by rw [← e];rfl))
    exact (tidy2Calls x.1.1 y.1.1 x.1.2 y.1.2 _ O (h0.grown hg hO) (OB.read hx) (OB.read hy) (n2 _ x.2) (n2 _ y.2)).mono fun en w' ⟨he,q,os',hw⟩ => ⟨he,q,os',hw⟩
   have c3 := cmpBinds3
   have hSWO : SWO (ltOf fun x y : E => cmpBinds x.1.2 y.1.2) :=
    ⟨fun x => by simp [ltOf,c3.self],fun x y z h1 h2 => by simp only [ltOf,decide_eq_true_eq] at *;exact c3.trans _ _ _ h1 h2,fun x y z h1 h2 => by
     simp only [ltOf,decide_eq_false_iff_not] at *
     intro h3
     by_cases e1 : x.1.2 = y.1.2
     ·rw [e1] at h3;exact h2 h3
     ·have h4 : cmpBinds y.1.2 x.1.2 < 0 := by have := c3.ne_zero e1;have := c3.anti y.1.2 x.1.2;omega
      exact h2 (c3.trans _ _ _ h4 h3)⟩
   have hlt : b < w.heap.size := (Array.getElem?_eq_some_iff.1 hb).1
   have hsort := Any.slices_SortFunc Tryz.sortBinds enc (fun x => h1 x.1 x.2) (fun x y => cmpBinds x.1.2 y.1.2) hSWO 111 #[.pointer (some ⟨O,0,none⟩)] b 0 cap d w enterTidy2 hcmp hH hlt (by omega)
   rw [hds] at hsort
   refine hsort.mono fun en w' ⟨he,d',n,os,hperm,hsorted,hw⟩ => ?_
   subst hw
   have hd' : d'.size = zs.length := by rw [hperm.1,hds]
   have hP : (d'.toList.map (·.1)).Perm zs := by
    have h1 := hperm.2.2
    have e1 : d'.extract 0 zs.length = d' := by rw [← hd'];simp
    have e2 : d.extract 0 zs.length = d := by rw [← hds];simp
    rw [e1,e2] at h1
    have := h1.map (fun x : E => x.1)
    rwa [hd] at this
   have hg := grownBy_sorted1 (enc := enc) (w := w) (g := b) (off := 0) (n := n) (os := os) d'
   refine ⟨he,d'.toList.map (·.1),hP,?_,?_,hg⟩
   ·rw [List.pairwise_map]
    refine List.pairwise_iff_getElem.2 fun i j hi hj hij => ?_
    have hs := hsorted i j (Nat.zero_le _) hij (by rw [← hd'];simpa using hj)
    simp only [ltOf,decide_eq_false_iff_not] at hs
    rw [getElem!_pos d' j (by simpa using hj),getElem!_pos d' i (by simpa using hi)] at hs
    exact hs
   ·refine hN.perm hP (OV.of_row ?_ (fun z hz => h1 z (hP.mem_iff.1 hz))) hg
    have hl : (d'.toList.map (·.1)).length = zs.length := by rw [List.length_map,Array.length_toList,hd']
    rw [hl]
    refine ⟨by simp [hd'],.inr ⟨b,cap,_,rfl,hbB,heap_sorted1 d' hb,hnc,hcm,by simpa [putCells] using hcs,?_⟩⟩
    have h3 := take_put1 enc d' cur (by omega)
    rw [hd'] at h3
    rw [Nat.mul_one,h3,List.map_map]
    rfl
end
section
open Go.RowKit
set_option maxRecDepth 100000 in
theorem neqBind (x y : PBind) (w : World) : (binOp .neq 110 (.agg #[.string x.var,.string x.name]) (.agg #[.string y.var,.string y.name])).run Tryz.prog w = .ok (.bool (!((x.var.toList == y.var.toList) && (x.name.toList == y.name.toList)))) w := by
 have hp : Tryz.prog.stoodInHeld 110 = false := by kernel_rfl
 have hf : Tryz.prog.fieldsOf 110 = (match Tryz.prog.underlying 110 with | some (.struct fs) => fs | _ => #[]) := rfl
 rw [Tryz.underlying110] at hf
 have hu : Tryz.prog.underlying 110 = some (.struct (Tryz.prog.fieldsOf 110)) := by rw [hf];exact Tryz.underlying110
 simp only [binOp]
 cases h1 : (x.var.toList == y.var.toList) <;> cases h2 : (x.name.toList == y.name.toList) <;>
  simp [Op.equal,Op.maxDepth,run_equalIn_struct w 9999 _ _ _ hu hp,go_sem,h1,h2]
theorem neqBind_same (x : PBind) (w : World) : (binOp .neq 110 (.agg #[.string x.var,.string x.name]) (.agg #[.string x.var,.string x.name])).run Tryz.prog w = .ok (.bool false) w := by
 rw [neqBind];simp
theorem neqBind_other {x y : PBind} (h : x ≠ y) (w : World) : (binOp .neq 110 (.agg #[.string x.var,.string x.name]) (.agg #[.string y.var,.string y.name])).run Tryz.prog w = .ok (.bool true) w := by
 rw [neqBind,beq_toList,beq_toList]
 obtain ⟨xv,xn⟩ := x
 obtain ⟨yv,yn⟩ := y
 by_cases h1 : xv = yv
 ·by_cases h2 : xn = yn
  ·exact absurd (by rw [h1,h2]) h
  ·simp [h2]
 ·simp [h1]
theorem Fresh.drewN {w w' : World} (h : Fresh w w') (n : Nat) : Fresh w (w'.drewN n) := by
 obtain ⟨q,os,rfl⟩ := h
 exact ⟨q + n,os,by simp [Sort.grow,World.drewN,Nat.add_assoc]⟩
set_option maxRecDepth 100000 in
set_option maxHeartbeats 0 in
theorem equalBinds {S T : Nat → Prop} (va vb : Value) (a b : Binds) (w : World) (ha : RdBinds S w va a) (hb : RdBinds T w vb b) (n1 : a.length ≤ 1073741824) (_ : b.length ≤ 1073741824) :
 Calls Tryz.prog 115 #[va,vb] w fun e w' => e = .returned (.bool (decide (a = b))) ∧ Fresh w w' := by
 obtain ⟨aa,ac,rfl,-,-,-⟩ := id ha.form
 obtain ⟨ba,bc,rfl,-,-,-⟩ := id hb.form
 have HA := ζ ha
 have HB := ζ hb
 clear ha hb
 by_cases hl : a.length = b.length
 case neg =>
  have HE := ζ (show decide (a = b) = false from decide_eq_false fun e => hl (by rw [e]))
  have i1 : ¬ (a.length : Int) = (b.length : Int) := by omega
  clear hl
  go_enter Tryz.func115,Tryz.ntmps115
  go_wp2
  go_ret
  exact ⟨ret_bool HE.out.symm,Fresh.refl _⟩
 have HLE := ζ hl
 obtain ⟨n,hn⟩ : ∃ n,b.length = n := ⟨_,rfl⟩
 rw [hn] at hl
 rw [hl] at HA n1 ⊢
 rw [hn] at HB ⊢
 have HNA := ζ hl
 have HNB := ζ hn
 clear hl hn
 go_enter Tryz.func115,Tryz.ntmps115
 go_wp2
 go_loopw [13,5] (fun i _ wr => ∃ k : Nat,k ≤ n ∧ i = .int .i64 k ∧ Hid (a.take k = b.take k) ∧ Hid (Fresh w wr)) (fun i _ _ => n - (intOf i).toNat)
 case atStart => exact ⟨0,Nat.zero_le _,rfl,ζ rfl,ζ (Fresh.refl _)⟩
 case round =>
  obtain ⟨k,hk,rfl,HR,HF⟩ := hrel
  by_cases hlt : k < n
  ·obtain ⟨x,hx⟩ : ∃ x,a[k]? = some x := ⟨_,ζe (by have := HNA.out;omega)⟩
   obtain ⟨y,hy⟩ : ∃ y,b[k]? = some y := ⟨_,ζe (by have := HNB.out;omega)⟩
   obtain ⟨b1,o1,rfl,-,-,d0,d1⟩ := RdBinds.at (HA.out.up HF.out.below) hx
   obtain ⟨b2,o2,rfl,-,-,f0,f1⟩ := RdBinds.at (HB.out.up HF.out.below) hy
   have j0 : (0 : Int) ≤ (k : Int) := by omega
   have j1 : (k : Int) < (n : Int) := by omega
   have j2 : IntKind.i64.wrap (k : Int) = k := by rw [IntKind.wrap_i64];omega
   by_cases hxy : x = y
   ·have HR1 := ζ (show a.take (k + 1) = b.take (k + 1) by rw [List.take_add_one,List.take_add_one,hx,hy,HR.out,hxy])
    have hne := neqBind_same x
    subst hxy
    clear hx hy HR
    go_wp2_with fail
    go_quiet (fail)
    go_wp2
    go_roundw
    case rel => exact ⟨k + 1,by omega,by go_num,HR1,ζ (HF.out.drewN _)⟩
    case measure => simp [intOf];omega
   ·have HE := ζ (show decide (a = b) = false from decide_eq_false fun e => hxy (by rw [e,hy] at hx;exact (Option.some.inj hx).symm))
    have hne := neqBind_other hxy
    clear hx hy HR hxy
    go_wp2_with fail
    go_quiet (fail)
    go_wp2
    go_ret
    exact ⟨ret_bool HE.out.symm,HF.out.drewN _⟩
  ·have HE := ζ (show decide (a = b) = true from decide_eq_true (by have := HR.out;rwa [List.take_of_length_le (by have := HNA.out;omega),List.take_of_length_le (by have := HNB.out;omega)] at this))
   go_wp2
   go_ret
   exact ⟨ret_bool HE.out.symm,HF.out⟩
theorem tidy3Calls {S T : Nat → Prop} (va vb : Value) (a b : Binds) (w : World) (ha : RdBinds S w va a) (hb : RdBinds T w vb b) (n1 : a.length ≤ 1073741824) (n2 : b.length ≤ 1073741824) :
 Calls Tryz.prog 114 #[va,vb] w fun e w' => e = .returned (.bool (decide (a = b))) ∧ Fresh w w' := by
 have K := ζ (equalBinds va vb a b w ha hb n1 n2)
 obtain ⟨aa,ac,rfl,-,-,-⟩ := id ha.form
 obtain ⟨ba,bc,rfl,-,-,-⟩ := id hb.form
 clear ha hb
 go_enter Tryz.func114,Tryz.ntmps114
 go_wp2_with (go_at_call 115;refine (K.out).mono ?_;rintro e w1 ⟨rfl,hf1⟩;have HF := ζ hf1;clear hf1)
 go_ret
 exact ⟨rfl,HF.out⟩
end
section
open Go.RowKit
section
variable {α β : Type} [DecidableEq α] (f : β → α)
def snocB (acc : List β) (x : β) : List β := if acc.getLast?.map f = some (f x) then acc else acc ++ [x]
def compactB (l : List β) : List β := l.foldl (snocB f) []
theorem compactB_snoc (l : List β) (x : β) : compactB f (l ++ [x]) = snocB f (compactB f l) x := by simp [compactB,List.foldl_append]
theorem compactB_take_succ {l : List β} {n : Nat} {x : β} (h : l[n]? = some x) : compactB f (l.take (n + 1)) = snocB f (compactB f (l.take n)) x := by
 rw [List.take_add_one,h];exact compactB_snoc _ _ _
theorem snocB_last (acc : List β) (x : β) : (snocB f acc x).getLast?.map f = some (f x) := by
 unfold snocB
 split
 ·assumption
 ·simp
theorem compactB_last {l : List β} {n : Nat} {x : β} (h : l[n]? = some x) : (compactB f (l.take (n + 1))).getLast?.map f = some (f x) := by
 rw [compactB_take_succ f h];exact snocB_last _ _ _
theorem compactB_same {l : List β} {n : Nat} {x y : β} (h : l[n]? = some x) (k : l[n + 1]? = some y) (he : f x = f y) : compactB f (l.take (n + 2)) = compactB f (l.take (n + 1)) := by
 rw [compactB_take_succ f k,snocB,if_pos (by rw [compactB_last f h,he])]
theorem compactB_other {l : List β} {n : Nat} {x y : β} (h : l[n]? = some x) (k : l[n + 1]? = some y) (hne : f x ≠ f y) : compactB f (l.take (n + 2)) = compactB f (l.take (n + 1)) ++ [y] := by
 rw [compactB_take_succ f k,snocB,if_neg (by rw [compactB_last f h];intro e;exact hne (Option.some.inj e))]
theorem compactB_apart {l : List β} : ∀ n,n ≤ l.length → (∀ p x y,p + 1 < n → l[p]? = some x → l[p + 1]? = some y → f x ≠ f y) → compactB f (l.take n) = l.take n
 | 0,_,_ => by simp [compactB]
 | 1,hn,_ => by
  obtain ⟨x,hx⟩ : ∃ x,l[0]? = some x := ⟨_,ζe (by omega)⟩
  rw [compactB_take_succ f hx,List.take_add_one,hx]
  simp [compactB,snocB]
 | n + 2,hn,h => by
  obtain ⟨x,hx⟩ : ∃ x,l[n]? = some x := ⟨_,ζe (by omega)⟩
  obtain ⟨y,hy⟩ : ∃ y,l[n + 1]? = some y := ⟨_,ζe (by omega)⟩
  rw [compactB_other f hx hy (h n x y (by omega) hx hy),compactB_apart (n + 1) (by omega) (fun p a b hp => h p a b (by omega)),List.take_add_one (i := n + 1),hy]
  rfl
theorem compactB_map (l : List β) : (compactB f l).map f = compactL (l.map f) := by
 have main : ∀ (l : List β) (acc : List β),(l.foldl (snocB f) acc).map f = (l.map f).foldl snocC (acc.map f) := by
  intro l
  induction l with
  | nil => intro acc;rfl
  | cons x l ih =>
   intro acc
   rw [List.foldl_cons,List.map_cons,List.foldl_cons,ih]
   congr 1
   unfold snocB snocC
   rw [List.getLast?_map]
   split
   ·rfl
   ·simp
 exact main l []
theorem compactB_sub (l : List β) : (compactB f l).Sublist l := by
 have main : ∀ (l acc pre : List β),acc.Sublist pre → (l.foldl (snocB f) acc).Sublist (pre ++ l) := by
  intro l
  induction l with
  | nil => intro acc pre h;simpa using h
  | cons x l ih =>
   intro acc pre h
   rw [List.foldl_cons,show pre ++ x :: l = (pre ++ [x]) ++ l by simp]
   refine ih _ _ ?_
   unfold snocB
   split
   ·exact h.trans (List.sublist_append_left _ _)
   ·exact h.append (List.Sublist.refl _)
 have h := main l [] [] (List.Sublist.refl _)
 rwa [List.nil_append] at h
end
theorem Nest.sub {B : Nat} {w w' : World} {v v' : Value} {zs ys : List VB} (h : Nest B w v zs) (hp : ys.Sublist zs) (ho : OV B w' v' ys) (hv : v'.ownBlock = v.ownBlock) (hg : w.grownBy w' v.ownBlock) : Nest B w' v' ys :=
 ⟨ho,fun z hz => (h.inner z (hp.subset hz)).kept RBind.steady hg (fun q hq e => h.off z (hp.subset hz) q hq e),h.apart.sublist hp,fun z hz b hb => by rw [hv];exact h.off z (hp.subset hz) b hb⟩
structure HalfC (w : World) (B g n cap : Nat) (zs : List VB) (i p : Nat) (xs : List Value) (acc : List VB) : Prop where
 own : w.ownsRow B 82 1 (.slice (some ⟨g,0,none⟩) n cap) n xs
 hd : xs.take i = acc.map (·.1)
 tl : xs.drop p = (zs.drop p).map (·.1)
 le : i ≤ p
 lt : p < n
section
variable {w w' : World} {B g n cap : Nat} {zs : List VB} {i p : Nat} {xs : List Value} {acc : List VB}
theorem HalfC.glt (h : HalfC w B g n cap zs i p xs acc) : B ≤ g ∧ g < w.heap.size := h.own.lt g rfl
theorem HalfC.len (h : HalfC w B g n cap zs i p xs acc) : xs.length = n := by have := h.own.1;omega
theorem HalfC.kept (h : HalfC w B g n cap zs i p xs acc) (hb : Below w.heap.size w w') : HalfC w' B g n cap zs i p xs acc :=
 ⟨h.own.kept (row := none) ⟨hb.os,hb.tape,hb.output,hb.size,fun k hk _ => hb.block k hk⟩ (.inr (by simp [Value.ownBlock])),h.hd,h.tl,h.le,h.lt⟩
theorem HalfC.cell (h : HalfC w B g n cap zs i p xs acc) {q : Nat} {z : VB} (hq : p ≤ q) (hz : zs[q]? = some z) (hn : q < n) : w.cell? ⟨g,q,none⟩ = some z.1 := by
 rw [h.own.cellAt q (by omega)]
 have h1 : (xs.drop p)[q - p]? = ((zs.drop p).map (·.1))[q - p]? := by rw [h.tl]
 rw [List.getElem?_drop,List.getElem?_map,List.getElem?_drop,show p + (q - p) = q by omega,hz] at h1
 exact h1
theorem HalfC.skip (h : HalfC w B g n cap zs i p xs acc) (hp : p + 1 < n) : HalfC w B g n cap zs i (p + 1) xs acc :=
 ⟨h.own,h.hd,by have := congrArg (List.drop 1) h.tl;rwa [List.drop_drop,← List.map_drop,List.drop_drop] at this,by have := h.le;omega,hp⟩
theorem HalfC.put (h : HalfC w B g n cap zs i p xs acc) {z : VB} (hp : p + 1 < n) : HalfC (w.setCell ⟨g,i,none⟩ z.1) B g n cap zs (i + 1) (p + 1) (xs.set i z.1) (acc ++ [z]) :=
 ⟨(h.own.stored i z.1).1,by
   have hi : i < xs.length := by have := h.le;have := h.len;omega
   rw [List.take_add_one,List.take_set_of_le (ζn _),h.hd,List.getElem?_set_self hi]
   simp,by
   have h1 := congrArg (List.drop 1) h.tl
   rw [List.drop_drop,← List.map_drop,List.drop_drop] at h1
   rw [List.drop_set_of_lt (by have := h.le;omega)]
   exact h1,by have := h.le;omega,hp⟩
theorem HalfC.spot (h : HalfC w B g n cap zs i p xs acc) : ∃ d,w.cell? ⟨g,i,none⟩ = some d ∧ w.frozen? ⟨g,i,none⟩ = false := by
 have hi : i < xs.length := by have := h.le;have := h.len;have := h.lt;omega
 exact ⟨_,by rw [h.own.cellAt i (by have := h.len;omega)];exact ζe hi,h.own.frozenAt _⟩
end
theorem Fresh.grownBy {w w' : World} (h : Fresh w w') (row : Option Nat) : w.grownBy w' row := ⟨h.below.os,h.below.tape,h.below.output,h.below.size,fun k hk _ => h.below.block k hk⟩
attribute [local go_sem ↓] Go.wp_at_zero Go.wp_at_succ
set_option maxRecDepth 100000 in
set_option maxHeartbeats 0 in
theorem compactNest {B : Nat} {w : World} {v : Value} {zs : List VB} (hN : Nest B w v zs) (n1 : zs.length ≤ 1073741824) (n2 : ∀ z ∈ zs,z.2.length ≤ 1073741824) :
 Calls Tryz.prog 113 #[v,.func (.func 114) #[] #[]] w fun en w' => (∃ v',en = .returned v' ∧ Nest B w' v' (compactB (·.2) zs)) ∧ w.grownBy w' v.ownBlock := by
 have KT := ζ (show ∀ W,w.grownBy W v.ownBlock → ∀ y ∈ zs,∀ z ∈ zs,Calls Tryz.prog 114 #[y.1,z.1] W fun e w' => e = .returned (.bool (decide (y.2 = z.2))) ∧ Fresh W w' from fun W hW y hy z hz =>
  tidy3Calls y.1 z.1 y.2 z.2 W (OB.read ((hN.inner y hy).kept RBind.steady hW (fun q hq e => hN.off y hy q hq e))) (OB.read ((hN.inner z hz).kept RBind.steady hW (fun q hq e => hN.off z hz q hq e))) (n2 y hy) (n2 z hz))
 have HS := ζ (show ∀ z ∈ zs,∃ a n c,z.1 = .slice a n c from fun z hz => by obtain ⟨a,c,h,-⟩ := (OB.read (hN.inner z hz)).form;exact ⟨a,_,c,h⟩)
 obtain ⟨ho,h1⟩ := hN.outer.row
 have H1 := ζ h1
 have HN := ζ hN
 by_cases hl2 : zs.length < 2
 ·have hc : compactB (·.2) zs = zs := by
   match zs,hl2 with
   | [],_ => rfl
   | [x],_ => simp [compactB,snocB]
  rw [hc]
  obtain ⟨a,c,rfl,-,-,-⟩ := id (hN.outer.read RPair.steady).form
  clear hN ho h1 KT HS n2 hc
  go_enter Tryz.func113,Tryz.ntmps113
  go_wp2
  go_ret
  exact ⟨⟨_,rfl,HN.out⟩,⟨rfl,rfl,rfl,ζn _,fun _ _ _ => rfl⟩⟩
 rcases id ho.2 with ⟨-,h0⟩ | ⟨g,cap,cur,rfl,hgB,hg,hcap,hcm,-,-⟩
 ·omega
 have hcm' : cap ≤ 9223372036854775807 := by unfold maxLen at hcm;omega
 obtain ⟨n,hn⟩ : ∃ n,zs.length = n := ⟨_,rfl⟩
 have HO := ζ ho
 rw [hn] at hl2 n1 hcap HO KT HN ⊢
 have HL := ζ hn
 clear hn ho h1 hN hg n2
 have hl2' : decide ((n : Int) < 2) = false := by simp;omega
 go_enter Tryz.func113,Tryz.ntmps113
 go_wp2
 go_loopw [5,6,7] (fun ui _ _ wr => ∃ j : Nat,j + 1 ≤ n ∧ ui = .int .i64 ((j : Int) + 1) ∧ Hid (∀ p x y,p + 1 < j + 1 → zs[p]? = some x → zs[p + 1]? = some y → x.2 ≠ y.2) ∧ Hid (Below w.heap.size w wr))
  (fun ui _ _ _ => n - (intOf ui).toNat)
 case atStart => exact ⟨0,by omega,rfl,ζ (fun p x y h => by omega),ζ (ζb _ _)⟩
 case round =>
  obtain ⟨j,hj,rfl,hne,hbel⟩ := hrel
  have hgb : w.grownBy wr (some g) := ⟨hbel.out.os,hbel.out.tape,hbel.out.output,hbel.out.size,fun k hk _ => hbel.out.block k hk⟩
  have HG := ζ hgb
  have hrow : wr.ownsRow B 82 1 (.slice (some ⟨g,0,none⟩) n cap) n (zs.map (·.1)) := by
   have := HO.out.kept (w' := wr) (row := none) ⟨hbel.out.os,hbel.out.tape,hbel.out.output,hbel.out.size,fun k hk _ => hbel.out.block k hk⟩ (.inr (by simp [Value.ownBlock]))
   exact this
  by_cases hlt : j + 1 < n
  ·obtain ⟨x,hx⟩ : ∃ x,zs[j + 1]? = some x := ⟨_,ζe (by rw [HL.out];omega)⟩
   obtain ⟨y,hy⟩ : ∃ y,zs[j]? = some y := ⟨_,ζe (by rw [HL.out];omega)⟩
   obtain ⟨xa,xn,xc,hx1⟩ := HS.out x (ζm hx)
   obtain ⟨ya,yn,yc,hy1⟩ := HS.out y (ζm hy)
   have cx : wr.cell? ⟨g,j + 1,none⟩ = some (.slice xa xn xc) := by rw [hrow.cellAt (j + 1) (by omega),List.getElem?_map,hx,← hx1];rfl
   have cy : wr.cell? ⟨g,j,none⟩ = some (.slice ya yn yc) := by rw [hrow.cellAt j (by omega),List.getElem?_map,hy,← hy1];rfl
   have hg1 : g < wr.heap.size := (hrow.lt g rfl).2
   have K := ζ (fun W (hW : w.grownBy W (some g)) => KT.out W hW x (ζm hx) y (ζm hy))
   have HX := ζ hx
   have HY := ζ hy
   have HR := ζ hrow
   rw [hx1,hy1] at K
   clear hx hy hx1 hy1 hrow hgb
   have i1 : (0 : Int) ≤ (j : Int) := by omega
   have i2 : (j : Int) + 1 < (n : Int) := by omega
   have i3 : (j : Int) < (n : Int) := by omega
   have i4 : (0 : Int) ≤ (j : Int) + 1 := by omega
   have i5 : IntKind.i64.wrap (j : Int) = j := by rw [IntKind.wrap_i64];omega
   by_cases hxy : x.2 = y.2
   ·have hd : decide (x.2 = y.2) = true := decide_eq_true hxy
    rw [hd] at K
    have HXY := ζ hxy
    clear hxy hd
    go_wp2_with fail
    go_region_held3 (fun w' => w'.cell? ⟨g,j + 1,none⟩ = some (.slice xa xn xc) ∧ w'.cell? ⟨g,j,none⟩ = some (.slice ya yn yc))
     (first | (refine ⟨?_,?_⟩ <;> (rw [hk2 _ hg1];assumption)) | go_keep)
     (first
      | (go_at_call 114;refine (K.out _ (HG.out.trans (Fresh.grownBy (Fresh.refl wr).drew _))).mono ?_;rintro e w1 ⟨rfl,hf1⟩;have hk2 : ∀ c,c < wr.heap.size → ∀ off,w1.cell? ⟨c,off,none⟩ = wr.cell? ⟨c,off,none⟩ := fun c hc off => ζl (w := wr.drew) hf1.below hc off))
    have HB1 := ζ (show Below wr.heap.size wr w1 from (ζb _ _).drew.trans hf1.below)
    have HC := ζ (show HalfC w1 B g n cap zs (j + 1) (j + 1) (zs.map (·.1)) (zs.take (j + 1)) from
     HalfC.kept (w := wr) ⟨HR.out,by rw [← List.map_take],by rw [← List.map_drop],ζn _,hlt⟩ HB1.out)
    have HACC := ζ (show compactB (·.2) (zs.take (j + 1 + 1)) = zs.take (j + 1) by
     rw [compactB_same (·.2) HY.out HX.out HXY.out.symm];exact compactB_apart _ (j + 1) (by rw [HL.out];omega) hne.out)
    have HG1 := ζ (show w.grownBy w1 (some g) from HG.out.trans ⟨HB1.out.os,HB1.out.tape,HB1.out.output,HB1.out.size,fun k hk _ => HB1.out.block k hk⟩)
    clear hf1 hk2 cx cy HB1
    go_wp2
    clear HX HY HXY K hg1 hbel hne HG HR
    obtain ⟨m,hm⟩ : ∃ m,n - (j + 1) = m := ⟨_,rfl⟩
    obtain ⟨c2,hc2⟩ : ∃ c2,cap - (j + 1) = c2 := ⟨_,rfl⟩
    rw [hm,hc2]
    go_loopw [5,7] (fun ui uk wr2 => ∃ i q : Nat,∃ xs acc,q + 1 ≤ m ∧ ui = .int .i64 i ∧ uk = .int .i64 ((q : Int) + 1) ∧ i ≤ j + 1 + q ∧ Hid (HalfC wr2 B g n cap zs i (j + 1 + q) xs acc) ∧ Hid (acc = compactB (·.2) (zs.take (j + 1 + q + 1))) ∧ Hid (w.grownBy wr2 (some g)))
     (fun _ uk _ => m - (intOf uk).toNat)
    case atStart => exact ⟨j + 1,0,_,_,by omega,by simp,by simp,by omega,HC,ζ HACC.out.symm,HG1⟩
    case round =>
     clear HC HACC HG1
     obtain ⟨i,q,xs,acc,hq,rfl,rfl,hip,HC,HACC,HG⟩ := hrel
     by_cases hlt2 : q + 1 < m
     ·obtain ⟨x2,hx⟩ : ∃ x2,zs[j + 1 + q + 1]? = some x2 := ⟨_,ζe (by rw [HL.out];omega)⟩
      obtain ⟨y2,hy⟩ : ∃ y2,zs[j + 1 + q]? = some y2 := ⟨_,ζe (by rw [HL.out];omega)⟩
      obtain ⟨xa,xn,xc,hx1⟩ := HS.out x2 (ζm hx)
      obtain ⟨ya,yn,yc,hy1⟩ := HS.out y2 (ζm hy)
      have cx := HC.out.cell (q := j + 1 + q + 1) (by omega) hx (by omega)
      have cy := HC.out.cell (q := j + 1 + q) (by omega) hy (by omega)
      have K := ζ (fun W (hW : w.grownBy W (some g)) => KT.out W hW x2 (ζm hx) y2 (ζm hy))
      have hg1 : g < wr.heap.size := HC.out.glt.2
      have HX := ζ hx
      have HY := ζ hy
      rw [hx1] at cx
      rw [hy1] at cy
      rw [hx1,hy1] at K
      have i1 : (0 : Int) ≤ (q : Int) := by omega
      have i2 : (q : Int) + 1 < (m : Int) := by omega
      have i3 : (q : Int) < (m : Int) := by omega
      have i4 : (0 : Int) ≤ (q : Int) + 1 := by omega
      have i5 : IntKind.i64.wrap (q : Int) = q := by rw [IntKind.wrap_i64];omega
      have e1 : j + 1 + q + 1 = j + 1 + (q + 1) := by omega
      rw [e1] at cx
      clear e1 hx hy hy1
      by_cases hxy : x2.2 = y2.2
      ·rw [decide_eq_true hxy] at K
       have HXY := ζ hxy
       clear hxy hx1
       go_wp2_with fail
       go_region_held3 (fun w' => w'.cell? ⟨g,j + 1 + (q + 1),none⟩ = some (.slice xa xn xc) ∧ w'.cell? ⟨g,j + 1 + q,none⟩ = some (.slice ya yn yc))
        (first | (refine ⟨?_,?_⟩ <;> (rw [hk2 _ hg1];assumption)) | go_keep)
        (first
         | (go_at_call 114;refine (K.out _ (HG.out.trans (Fresh.grownBy (Fresh.refl wr).drew _))).mono ?_;rintro e w3 ⟨rfl,hf1⟩;have hk2 : ∀ c,c < wr.heap.size → ∀ off,w3.cell? ⟨c,off,none⟩ = wr.cell? ⟨c,off,none⟩ := fun c hc off => ζl (w := wr.drew) hf1.below hc off))
       have HB3 := ζ (show Below wr.heap.size wr w3 from (ζb _ _).drew.trans hf1.below)
       have HC3 := ζ ((HC.out.kept HB3.out).skip (by omega))
       have HG3 := ζ (show w.grownBy w3 (some g) from HG.out.trans ⟨HB3.out.os,HB3.out.tape,HB3.out.output,HB3.out.size,fun k hk _ => HB3.out.block k hk⟩)
       have HA3 := ζ (show acc = compactB (·.2) (zs.take (j + 1 + (q + 1) + 1)) by
        rw [show j + 1 + (q + 1) + 1 = j + 1 + q + 2 by omega,compactB_same (·.2) HY.out HX.out HXY.out.symm,← HACC.out])
       clear hf1 hk2 HB3
       go_wp2
       go_roundw
       case rel => exact ⟨i,q + 1,xs,acc,by omega,by go_num,by go_num,by omega,HC3,HA3,HG3⟩
       case measure => simp [intOf];omega
      ·rw [decide_eq_false hxy] at K
       have HXY := ζ hxy
       have HP := ζ (fun W (hb : Below wr.heap.size wr W) => (show (∃ d,W.cell? ⟨g,i,none⟩ = some d ∧ W.frozen? ⟨g,i,none⟩ = false) ∧ W.grownBy (W.setCell ⟨g,i,none⟩ (.slice xa xn xc)) (some g) ∧ HalfC (W.setCell ⟨g,i,none⟩ (.slice xa xn xc)) B g n cap zs (i + 1) (j + 1 + (q + 1)) (xs.set i (.slice xa xn xc)) (acc ++ [x2]) from
        ⟨(HC.out.kept hb).spot,((HC.out.kept hb).own.stored i _).2,by rw [← hx1];exact (HC.out.kept hb).put (by omega)⟩))
       have HA3 := ζ (show acc ++ [x2] = compactB (·.2) (zs.take (j + 1 + (q + 1) + 1)) by
        rw [show j + 1 + (q + 1) + 1 = j + 1 + q + 2 by omega,compactB_other (·.2) HY.out HX.out (fun e => HXY.out e.symm),← HACC.out])
       clear hxy hx1
       go_wp2_with fail
       go_region_held3 (fun w' => w'.cell? ⟨g,j + 1 + (q + 1),none⟩ = some (.slice xa xn xc) ∧ w'.cell? ⟨g,j + 1 + q,none⟩ = some (.slice ya yn yc))
        (first | (refine ⟨?_,?_⟩ <;> (rw [hk2 _ hg1];assumption)) | go_keep)
        (first
         | (go_at_call 114;refine (K.out _ (HG.out.trans (Fresh.grownBy (Fresh.refl wr).drew _))).mono ?_;rintro e w3 ⟨rfl,hf1⟩;have hk2 : ∀ c,c < wr.heap.size → ∀ off,w3.cell? ⟨c,off,none⟩ = wr.cell? ⟨c,off,none⟩ := fun c hc off => ζl (w := wr.drew) hf1.below hc off))
       have HB3 := ζ (show Below wr.heap.size wr w3 from (ζb _ _).drew.trans hf1.below)
       obtain ⟨⟨d,s0,s1⟩,hg3,hc3⟩ := HP.out _ HB3.out
       have HC3 := ζ hc3
       have HG3 := ζ ((show w.grownBy w3 (some g) from HG.out.trans ⟨HB3.out.os,HB3.out.tape,HB3.out.output,HB3.out.size,fun k hk _ => HB3.out.block k hk⟩).trans hg3)
       have hin : (i : Int) < n := by omega
       have i6 : (0 : Int) ≤ (i : Int) := by omega
       have cx3 := (hk2 _ hg1 (j + 1 + (q + 1))).trans cx
       clear hf1 hk2 HB3 hc3 hg3
       go_wp2
       go_roundw
       case rel => exact ⟨i + 1,q + 1,_,_,by omega,by go_num,by go_num,by omega,HC3,HA3,HG3⟩
       case measure => simp [intOf];omega
     ·have hqm : q + 1 = m := by omega
      have hin : i ≤ n := by omega
      have hin' : (i : Int) ≤ n := by omega
      have hic : i ≠ cap := by omega
      have hic' : cap ≠ i := fun e => hic e.symm
      have hic2 : i < cap := by omega
      have hic3 : (i : Int) < cap := by omega
      have i6 : (0 : Int) ≤ (i : Int) := by omega
      have HA := ζ (show acc = compactB (·.2) zs by rw [HACC.out,List.take_of_length_le (by rw [HL.out];omega)])
      go_wp2
      obtain ⟨w5,hrun5,hown5,hg5⟩ := run_clear_own (P := Tryz.prog) (t := 106) (ty := 0) (k := 1) (by omega) Tryz.underlying106 Tryz.zeroValue82 rfl (by simp [Value.cells,Value.oneCell']) HC.out.own i (cap - i) hin
      rw [Nat.mul_one] at hrun5 hown5
      have HO5 := ζ hown5
      have HG5 := ζ (HG.out.trans hg5)
      clear hown5 hg5
      rw [hrun5]
      go_wp2
      go_ret
      have hlen : i = acc.length := by
       have h2 := congrArg List.length HC.out.hd
       rw [List.length_take,List.length_map,HC.out.len] at h2
       omega
      have hsub : (compactB (·.2) zs).Sublist zs := compactB_sub _ zs
      refine ⟨⟨_,rfl,HN.out.sub hsub (OV.of_row ?_ (fun z hz => H1.out z (hsub.subset hz))) rfl HG5.out⟩,HG5.out⟩
      rw [← HA.out,← hlen,← HC.out.hd]
      exact HO5.out
   ·have hd : decide (x.2 = y.2) = false := decide_eq_false hxy
    rw [hd] at K
    have HXY := ζ hxy
    clear hxy hd
    go_wp2_with fail
    go_region_held3 (fun w' => w'.cell? ⟨g,j + 1,none⟩ = some (.slice xa xn xc) ∧ w'.cell? ⟨g,j,none⟩ = some (.slice ya yn yc))
     (first | (refine ⟨?_,?_⟩ <;> (rw [hk2 _ hg1];assumption)) | go_keep)
     (first
      | (go_at_call 114;refine (K.out _ (HG.out.trans (Fresh.grownBy (Fresh.refl wr).drew _))).mono ?_;rintro e w1 ⟨rfl,hf1⟩;have hk2 : ∀ c,c < wr.heap.size → ∀ off,w1.cell? ⟨c,off,none⟩ = wr.cell? ⟨c,off,none⟩ := fun c hc off => ζl (w := wr.drew) hf1.below hc off))
    have HB2 := ζ (hbel.out.drew.trans (hf1.below.mono hbel.out.size))
    clear hf1 hk2 cx cy
    go_wp2
    go_roundw
    case rel =>
     refine ⟨j + 1,by omega,by go_num,ζ ?_,HB2⟩
     intro p a b hp ha hb
     by_cases hpj : p = j
     ·subst hpj
      rw [HY.out] at ha
      rw [HX.out] at hb
      obtain rfl := Option.some.inj ha
      obtain rfl := Option.some.inj hb
      exact fun e => HXY.out e.symm
     ·exact hne.out p a b (by omega) ha hb
    case measure => simp [intOf];omega
  ·have hjn : j + 1 = n := by omega
   have hc : compactB (·.2) zs = zs := by
    have := compactB_apart (·.2) (l := zs) (j + 1) (by rw [HL.out];omega) hne.out
    rwa [List.take_of_length_le (by rw [HL.out];omega)] at this
   have HC := ζ hc
   clear hc hgb hrow
   go_wp2
   go_ret
   exact ⟨⟨_,rfl,by rw [HC.out];exact HN.out.below hbel.out⟩,HG.out⟩
end
section
open Go.RowKit
theorem compactC_rising {α : Type} [DecidableEq α] {c : α → α → Int} (h3 : Cmp3 c) {l : List α} (hs : l.Pairwise fun a b => ¬ c b a < 0) : ∀ n,RisingC c (compactL (l.take n))
 | 0 => by simp [compactL,RisingC]
 | n + 1 => by
  cases h : l[n]? with
  | none => rw [List.take_add_one,h];simpa using compactC_rising h3 hs n
  | some y =>
   rw [compactL_take_succ h,snocC]
   have ih := compactC_rising h3 hs n
   split
   ·exact ih
   ·rename_i hl
    refine List.pairwise_append.2 ⟨ih,by simp,fun a ha b hb => ?_⟩
    obtain rfl := List.mem_singleton.1 hb
    have ha' := (mem_compactL l a n).1 ha
    obtain ⟨p,hp⟩ := List.mem_iff_getElem?.1 ha'
    have hpn : p < n := by
     have := (List.getElem?_eq_some_iff.1 hp).1
     rw [List.length_take] at this;omega
    rw [List.getElem?_take_of_lt hpn] at hp
    obtain ⟨h1,rfl⟩ := List.getElem?_eq_some_iff.1 hp
    obtain ⟨h2,rfl⟩ := List.getElem?_eq_some_iff.1 h
    have h4 := List.pairwise_iff_getElem.1 hs p n h1 h2 hpn
    have hne : l[p] ≠ l[n] := by
     intro e
     apply hl
     obtain ⟨m,rfl⟩ : ∃ m,n = m + 1 := ⟨n - 1,by omega⟩
     have hm : l[m]? = some l[m] := ζe (by omega)
     rw [compactL_last hm]
     congr 1
     by_cases hpm : p = m
     ·subst hpm;exact e
     ·have q1 := List.pairwise_iff_getElem.1 hs p m h1 (by omega) (by omega)
      have q2 := List.pairwise_iff_getElem.1 hs m (m + 1) (by omega) h2 (by omega)
      rw [e] at q1
      have := h3.anti l[m] l[m + 1]
      have := h3.anti l[m + 1] l[m]
      exact (h3.zero _ _).1 (by omega)
    simp only [ltC,decide_eq_true_eq]
    have := h3.ne_zero hne
    have := h3.anti l[n] l[p]
    omega
theorem compactC_of {α : Type} [DecidableEq α] {c : α → α → Int} (h3 : Cmp3 c) {l l' : List α} (hp : l'.Perm l) (hs : l'.Pairwise fun a b => ¬ c b a < 0) : compactL l' = ofC c l := by
 have h := compactC_rising h3 hs l'.length
 rw [List.take_length] at h
 refine risingC_ext h3 h (ofC_rising h3 l) fun x => ?_
 have := mem_compactL l' x l'.length
 rw [List.take_length] at this
 rw [this,hp.mem_iff,mem_ofC h3]
theorem sorted_of {α : Type} [DecidableEq α] {c : α → α → Int} (h3 : Cmp3 c) {l l' : List α} (hp : l'.Perm l) (hs : l'.Pairwise fun a b => ¬ c b a < 0) (hn : l.Nodup) : l' = ofC c l :=
 risingC_ext h3 (rising_of_sorted h3 hs (hp.nodup_iff.2 hn)) (ofC_rising h3 l) fun x => by rw [hp.mem_iff,mem_ofC h3]
def srt (z : VB) : VB := (z.1,ofC cmpBind z.2)
theorem srt_get {zs : List VB} {k : Nat} {z : VB} (h : zs[k]? = some z) : ((zs.take k).map srt ++ zs.drop k)[k]? = some z := by
 have hk := (List.getElem?_eq_some_iff.1 h).1
 rw [List.getElem?_append_right (by rw [List.length_map,List.length_take];omega),List.length_map,List.length_take,Nat.min_eq_left (by omega),Nat.sub_self,drop_cons h]
 rfl
theorem srt_step {zs : List VB} {k : Nat} {z : VB} (h : zs[k]? = some z) : (zs.take (k + 1)).map srt ++ zs.drop (k + 1) = (zs.take k).map srt ++ (z.1,ofC cmpBind z.2) :: zs.drop (k + 1) := by
 rw [List.take_add_one,h,List.map_append,List.append_assoc];rfl
set_option maxRecDepth 100000 in
set_option maxHeartbeats 0 in
theorem tidyCalls {B : Nat} {w : World} {v : Value} {zs : List VB} (hN : Nest B w v zs) (hB : B ≤ w.heap.size) (hnd : ∀ z ∈ zs,z.2.Nodup) (n1 : zs.length ≤ 1073741824) (n2 : ∀ z ∈ zs,z.2.length ≤ 1073741824) :
 Calls Tryz.prog 102 #[v] w fun en w' => (∃ v' ys,en = .returned v' ∧ Nest B w' v' ys ∧ ys.map (·.2) = tidyP (zs.map (·.2))) ∧ Below B w w' := by
 obtain ⟨a,c,rfl,-,-,-⟩ := id (hN.outer.read RPair.steady).form
 have HN := ζ hN
 have ND := ζ hnd
 have N2 := ζ n2
 have HB0 := ζ ((ζb B w).alloc hB (.cells #[.func (.func 108) #[] #[]] 156))
 have HO0 := ζ (Blk.new w 156 #[.func (.func 108) #[] #[]])
 have HN0 := ζ (hN.alloc (.cells #[.func (.func 108) #[] #[]] 156))
 clear hN hnd n2
 go_enter Tryz.func102,Tryz.ntmps102
 go_wp2
 go_loopw [8,5] (fun i _ wr => ∃ k : Nat,k ≤ zs.length ∧ i = .int .i64 k ∧ Hid (Nest B wr (.slice a zs.length c) ((zs.take k).map srt ++ zs.drop k)) ∧ Hid (Below B w wr) ∧ Hid (Blk wr w.heap.size 156 #[.func (.func 108) #[] #[]])) (fun i _ _ => zs.length - (intOf i).toNat)
 case atStart => exact ⟨0,Nat.zero_le _,rfl,ζ (by simpa using HN0.out),HB0,HO0⟩
 case round =>
  clear HB0 HO0 HN0
  obtain ⟨k,hk,rfl,HNK,HB,HO⟩ := hrel
  have ho : wr.cell? ⟨w.heap.size,0,none⟩ = some (.func (.func 108) #[] #[]) := HO.out.cell 0
  have hlo := HO.out.lt
  by_cases hlt : k < zs.length
  ·obtain ⟨z,hx⟩ : ∃ z,zs[k]? = some z := ⟨_,ζe hlt⟩
   have hm := ζm hx
   obtain ⟨g,rfl,hgl,hc⟩ := OV.cellAt HNK.out.outer (srt_get hx)
   have hN2 := HNK.out
   rw [drop_cons hx] at hN2
   have hoz : OB B wr z.1 z.2 := hN2.inner z (by simp)
   have hzb : z.1.ownBlock ≠ some w.heap.size := fun e => by have := (HN.out.inner_lt hm e).2;omega
   have KS := ζ ((sortBind hoz (N2.out z hm)).mono (R' := fun en w' => en = .returned (.tuple #[]) ∧ Nest B w' (.slice (some ⟨g,0,none⟩) zs.length c) ((zs.take (k + 1)).map srt ++ zs.drop (k + 1)) ∧ Below B w w' ∧ Blk w' w.heap.size 156 #[.func (.func 108) #[] #[]])
    fun en w' ⟨he,l',hp,hs,ho',hg'⟩ => by
     have hl := sorted_of cmpBind3 hp hs (ND.out z hm)
     subst hl
     refine ⟨he,?_,?_,?_⟩
     ·rw [srt_step hx]
      exact hN2.turn ho' (hN2.outer.tell (by simp)) hg'
     ·exact HB.out.grown hg' (Nat.le_trans hB HB.out.size) (fun q hq => (hoz.row_lt hq).1)
     ·exact HO.out.grown hg' (fun e => hzb e.symm))
   obtain ⟨za,zc,hz1,-⟩ := (OB.read hoz).form
   rw [hz1] at hc KS
   clear hx hm hN2 hoz hzb hz1
   go_wp2_with (go_at_call 109;refine (KS.out).mono ?_;rintro e w1 ⟨rfl,hn1,hb1,ho1⟩;have HN1 := ζ hn1;have HB1 := ζ hb1;have HO1 := ζ ho1;clear hn1 hb1 ho1)
   go_roundw
   case rel => exact ⟨k + 1,by omega,by go_num,HN1,HB1,HO1⟩
   case measure => simp [intOf];omega
  ·have hN2 : Nest B wr (.slice a zs.length c) (zs.map srt) := by
    have := HNK.out
    rwa [List.take_of_length_le (by omega),List.drop_eq_nil_of_le (by omega),List.append_nil] at this
   have hsn : ∀ y ∈ zs.map srt,y.2.length ≤ 1073741824 := fun y hy => by
    obtain ⟨z,hz,rfl⟩ := List.mem_map.1 hy
    show (ofC cmpBind z.2).length ≤ _
    rw [length_ofC cmpBind3 _ (ND.out z hz)]
    exact N2.out z hz
   have hoa : some w.heap.size ≠ (Value.slice a zs.length c).ownBlock := fun e => by have := (HN.out.row_lt e.symm).2;omega
   have KS := ζ ((sortNest hN2 HO.out hoa (by rw [List.length_map];exact n1) hsn).mono (R' := fun en w' => en = .returned (.tuple #[]) ∧ Below B w w' ∧ ∃ zs',Nest B w' (.slice a zs.length c) zs' ∧ compactL (zs'.map (·.2)) = tidyP (zs.map (·.2)) ∧ zs'.length ≤ 1073741824 ∧ ∀ y ∈ zs',y.2.length ≤ 1073741824)
    fun en w' ⟨he,zs',hp,hs,hn',hg'⟩ => by
     refine ⟨he,HB.out.grown hg' (Nat.le_trans hB HB.out.size) (fun q hq => (hN2.row_lt hq).1),zs',hn',?_,by rw [hp.length_eq,List.length_map];exact n1,fun y hy => hsn y (hp.mem_iff.1 hy)⟩
     have h1 := hp.map (fun z : VB => z.2)
     rw [List.map_map] at h1
     rw [compactC_of cmpBinds3 h1 (by rw [List.pairwise_map];exact hs)]
     unfold tidyP
     rw [List.map_map]
     rfl)
   clear hN2 hsn hoa
   go_wp2_with (first
    | (go_at_call 110;refine (KS.out).mono ?_;rintro e w1 ⟨rfl,hb1,zs',hn1,hc1,hl1,hl2⟩;have HB1 := ζ hb1;have KC := ζ (compactNest hn1 hl1 hl2);have HRW := ζ (fun q => (hn1.row_lt (g := q)));have HC1 := ζ hc1;clear hb1 hn1 hc1 hl1 hl2)
    | (go_at_call 113;refine (KC.out).mono ?_;rintro e w2 ⟨⟨v2,rfl,hn2⟩,hg2⟩;have HN2 := ζ hn2;have HB2 := ζ (HB1.out.grown hg2 (Nat.le_trans hB (Below.size HB1.out)) (fun q hq => (HRW.out q hq).1));clear hn2 hg2))
   go_ret
   exact ⟨⟨v2,_,rfl,HN2.out,by rw [compactB_map];exact HC1.out⟩,HB2.out⟩
end
end Go.Proofs.YtdngkcieckejoaaGreat
