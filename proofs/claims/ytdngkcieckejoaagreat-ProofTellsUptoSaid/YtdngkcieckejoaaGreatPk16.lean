/-
  THE TEXTS RoundsL, EnvM, EnvT, RcP, EnvF, EnvP, one behind the other.
-/
import Derived.Test.YtdngkcieckejoaaGreatPk2
import Derived.Test.YtdngkcieckejoaaGreatPk3
import Derived.Test.YtdngkcieckejoaaGreatPk5
import Derived.Test.YtdngkcieckejoaaGreatPk6
import Derived.Test.YtdngkcieckejoaaGreatPk15
import Derived.Maps.RangeWalk
import Derived.Maps.StringElems
import Derived.Laws.OwnMore
namespace Go.Proofs.YtdngkcieckejoaaGreat
section
theorem toList_app (a b : Str) : (a ++ b).data.toList = a.data.toList ++ b.data.toList := by rw [ByteArray.data_append,Array.toList_append]
def restL (l : List Str) : List UInt8 := l.flatMap fun a => 44 :: a.data.toList
theorem key_list (f : PFact) : (keyP f).data.toList = f.name.data.toList ++ restL f.args := by
 have main : ∀ (l : List Str) (z : Str),(l.foldl (fun s a => s ++ ((⟨#[44]⟩ : Str) ++ a)) z).data.toList = z.data.toList ++ restL l := by
  intro l
  induction l with
  | nil => intro z;simp [restL]
  | cons a l ih =>
   intro z
   rw [List.foldl_cons,ih,toList_app,toList_app]
   simp [restL]
 exact main f.args f.name
theorem sign_comma : signB 44 = false := by decide
theorem named_comma {s : Str} (h : named s = true) : (44 : UInt8) ∉ s.data.toList := by
 unfold named nameL at h
 simp only [Bool.and_eq_true] at h
 intro hm
 cases hl : s.data.toList with
 | nil => rw [hl] at hm;cases hm
 | cons c cs =>
  rw [hl] at h hm
  simp only [Bool.and_eq_true] at h
  rcases List.mem_cons.1 hm with e | hm
  ·have h2 := h.2.1
   rw [← e] at h2
   revert h2
   decide
  ·have := List.all_eq_true.1 h.2.2 44 hm
   rw [sign_comma] at this
   cases this
theorem cut_comma : ∀ (u v r s : List UInt8),(44 : UInt8) ∉ u → (44 : UInt8) ∉ v → (r = [] ∨ ∃ t,r = 44 :: t) → (s = [] ∨ ∃ t,s = 44 :: t) → u ++ r = v ++ s → u = v ∧ r = s
 | [],[],r,s,_,_,_,_,h => ⟨rfl,by simpa using h⟩
 | [],c :: v,r,s,_,hv,hr,_,h => by
  exfalso
  rcases hr with rfl | ⟨t,rfl⟩
  ·simp at h
  ·simp only [List.nil_append,List.cons_append,List.cons.injEq] at h
   exact hv (by rw [← h.1];exact List.mem_cons_self ..)
 | c :: u,[],r,s,hu,_,_,hs,h => by
  exfalso
  rcases hs with rfl | ⟨t,rfl⟩
  ·simp at h
  ·simp only [List.nil_append,List.cons_append,List.cons.injEq] at h
   exact hu (by rw [h.1];exact List.mem_cons_self ..)
 | c :: u,d :: v,r,s,hu,hv,hr,hs,h => by
  simp only [List.cons_append,List.cons.injEq] at h
  obtain ⟨h1,h2⟩ := cut_comma u v r s (fun hm => hu (List.mem_cons_of_mem _ hm)) (fun hm => hv (List.mem_cons_of_mem _ hm)) hr hs h.2
  exact ⟨by rw [h.1,h1],h2⟩
theorem restL_head (l : List Str) : restL l = [] ∨ ∃ t,restL l = 44 :: t := by
 cases l with
 | nil => exact .inl rfl
 | cons a l => exact .inr ⟨a.data.toList ++ restL l,by simp [restL]⟩
theorem str_list {a b : Str} (h : a.data.toList = b.data.toList) : a = b := by
 cases a;cases b
 simpa [Array.toList_inj] using h
theorem restL_inj : ∀ {l m : List Str},(∀ a ∈ l,named a = true) → (∀ a ∈ m,named a = true) → restL l = restL m → l = m
 | [],[],_,_,_ => rfl
 | [],b :: m,_,_,h => by simp [restL] at h
 | a :: l,[],_,_,h => by simp [restL] at h
 | a :: l,b :: m,hl,hm,h => by
  have e : a.data.toList ++ restL l = b.data.toList ++ restL m := by
   have h' : (44 : UInt8) :: (a.data.toList ++ restL l) = 44 :: (b.data.toList ++ restL m) := by simpa [restL] using h
   exact (List.cons.inj h').2
  obtain ⟨h1,h2⟩ := cut_comma _ _ _ _ (named_comma (hl a (List.mem_cons_self ..))) (named_comma (hm b (List.mem_cons_self ..))) (restL_head l) (restL_head m) e
  rw [str_list h1,restL_inj (fun x hx => hl x (List.mem_cons_of_mem _ hx)) (fun x hx => hm x (List.mem_cons_of_mem _ hx)) h2]
theorem key_inj {f g : PFact} (hf : wrongF f = 0) (hg : wrongF g = 0) (h : keyP f = keyP g) : f = g := by
 obtain ⟨f1,-,f3⟩ := wrongF_zero.1 hf
 obtain ⟨g1,-,g3⟩ := wrongF_zero.1 hg
 have e := key_list f
 rw [h,key_list g] at e
 obtain ⟨h1,h2⟩ := cut_comma _ _ _ _ (named_comma g1) (named_comma f1) (restL_head _) (restL_head _) e
 cases f;cases g
 simp only at h1 h2 f3 g3
 rw [str_list h1,restL_inj g3 f3 h2]
def ixR (f : PFact) : List (List PFact) → Nat
 | [] => 0
 | x :: L => if memF f x then 0 else ixR f L + 1
theorem ixR_has {f : PFact} {R : List (List PFact)} : ∀ {L : List (List PFact)},(∃ x ∈ L,f ∈ x) → ixR f (L ++ R) = ixR f L
 | [],h => by obtain ⟨x,hx,-⟩ := h;cases hx
 | y :: L,h => by
  rw [List.cons_append,ixR,ixR]
  by_cases e : memF f y = true
  ·rw [if_pos e,if_pos e]
  ·rw [if_neg e,if_neg e]
   obtain ⟨x,hx,hf⟩ := h
   rcases List.mem_cons.1 hx with rfl | hx
   ·exact absurd ((memF_iff _ _).2 hf) e
   ·rw [ixR_has ⟨x,hx,hf⟩]
theorem ixR_new {f : PFact} {R : List (List PFact)} : ∀ {L : List (List PFact)},(∀ x ∈ L,f ∉ x) → ixR f (L ++ R) = L.length + ixR f R
 | [],_ => by simp
 | y :: L,h => by
  rw [List.cons_append,ixR,if_neg (fun e => h y (List.mem_cons_self ..) ((memF_iff _ _).1 e)),ixR_new fun x hx => h x (List.mem_cons_of_mem _ hx),List.length_cons]
  omega
theorem ageM_other {a : Int} {s : Str} : ∀ {l : List PFact} {m : Str → Option Int},(∀ z ∈ l,keyP z ≠ s) → ageMore a m l s = m s
 | [],_,_ => rfl
 | z :: l,m,h => by
  show ageMore a (putM m (keyP z) a) l s = m s
  rw [ageM_other fun y hy => h y (List.mem_cons_of_mem _ hy)]
  unfold putM
  rw [if_neg fun e => h z (List.mem_cons_self ..) e.symm]
theorem ageM_hit {a : Int} {z : PFact} : ∀ {l : List PFact} {m : Str → Option Int},(m (keyP z) = some a ∨ z ∈ l) → ageMore a m l (keyP z) = some a
 | [],_,h => h.elim id fun h => by cases h
 | y :: l,m,h => by
  show ageMore a (putM m (keyP y) a) l (keyP z) = some a
  refine ageM_hit ?_
  by_cases e : keyP z = keyP y
  ·left;unfold putM;rw [if_pos e]
  ·rcases h with h | h
   ·left;unfold putM;rw [if_neg e];exact h
   ·rcases List.mem_cons.1 h with rfl | h
    ·exact absurd rfl e
    ·exact .inr h
structure AgesIn (m : Str → Option Int) (L : List (List PFact)) (cur : List PFact) : Prop where
 last : L.getLast? = some cur
 sub : ∀ x ∈ L,∀ f ∈ x,f ∈ cur
 fine : ∀ f ∈ cur,wrongF f = 0
 age : ∀ f ∈ cur,(m (keyP f)).getD 0 = (ixR f L : Int)
 none_ : ∀ f,wrongF f = 0 → f ∉ cur → m (keyP f) = none
theorem AgesIn.start {l : List PFact} (h : ∀ f ∈ l,wrongF f = 0) : AgesIn (fun _ => none) [l] l :=
 ⟨rfl,fun x hx f hf => by obtain rfl := List.mem_singleton.1 hx;exact hf,h,fun f hf => by rw [ixR,if_pos ((memF_iff _ _).2 hf)];rfl,fun _ _ _ => rfl⟩
theorem AgesIn.step {m : Str → Option Int} {L : List (List PFact)} {cur o : List PFact} (h : AgesIn m L cur) (hsub : ∀ f ∈ cur,f ∈ o) (hf : ∀ f ∈ o,wrongF f = 0) : AgesIn (ageMore (L.length : Int) m (lessF o cur)) (L ++ [o]) o := by
 have hcur : cur ∈ L := List.mem_of_getLast? h.last
 have hnew : ∀ z,z ∈ lessF o cur ↔ z ∈ o ∧ z ∉ cur := fun z => by
  unfold lessF
  rw [List.mem_filter]
  cases e : memF z cur
  ·have : z ∉ cur := fun hz => by rw [(memF_iff _ _).2 hz] at e;cases e
   simp [this]
  ·have := (memF_iff z cur).1 e
   simp [this]
 refine ⟨by simp,fun x hx f hfx => ?_,hf,fun f hfo => ?_,fun f hw hn => ?_⟩
 ·rcases List.mem_append.1 hx with hx | hx
  ·exact hsub f (h.sub x hx f hfx)
  ·obtain rfl := List.mem_singleton.1 hx;exact hfx
 ·by_cases hc : f ∈ cur
  ·rw [ageM_other fun z hz e => ((hnew z).1 hz).2 (by rw [key_inj (hf z ((hnew z).1 hz).1) (hf f hfo) e];exact hc),ixR_has ⟨cur,hcur,hc⟩]
   exact h.age f hc
  ·rw [ageM_hit (.inr ((hnew f).2 ⟨hfo,hc⟩)),ixR_new fun x hx hfx => hc (h.sub x hx f hfx),ixR,if_pos ((memF_iff _ _).2 hfo)]
   simp
 ·have hc : f ∉ cur := fun hc => hn (hsub f hc)
  rw [ageM_other fun z hz e => hn (by rw [← key_inj (hf z ((hnew z).1 hz).1) hw e];exact ((hnew z).1 hz).1)]
  exact h.none_ f hw hc
def AgeI (ps : List (PRule × Int)) (cn : Nat) (T : Str → Option Int) (l : List PFact) (n : Nat) (zs : List (List PFact)) (cur : List PFact) : Prop :=
 ∃ m,Aging ps cn n cur ((zs.length : Int) - 1) m T ∧ AgesIn m zs cur ∧ zs.head? = some l ∧ ∀ z ∈ zs,z.length ≤ 200
theorem head_snoc {α : Type} {l : List α} {x y : α} (h : l.head? = some x) : (l ++ [y]).head? = some x := by
 cases l with
 | nil => cases h
 | cons a l => exact h
theorem age_step {ps : List (PRule × Int)} (hR : ∀ r s,(r,s) ∈ ps → ruleBad r = 0) {n : Nat} {m : Str → Option Int} {zs : List (List PFact)} {cur : List PFact} (h : AgesIn m zs cur) (hg : Good cur) (he : (onceP (n : Int) cur ps cur).2 = 0) :
 AgesIn (ageMore (zs.length : Int) m (lessF (onceP (n : Int) cur ps cur).1 cur)) (zs ++ [(onceP (n : Int) cur ps cur).1]) (onceP (n : Int) cur ps cur).1 :=
 h.step (fun f hf => ((once_round he hg.rise hg.len).mem f).2 (.inl hf)) (once_good hg hR hg he).fine
theorem age_inv {ps : List (PRule × Int)} {cn : Nat} {l : List PFact} (hR : ∀ r s,(r,s) ∈ ps → ruleBad r = 0) (hl : Good l) : RInv (AgeI ps cn (ageAll ps cn 0 l 0 (fun _ => none)) l) ps cn l where
 start := ⟨fun _ => none,by
  have h := aging_run (ps := ps) (cnt := cn) (i := 0) (cur := l) (a := 0) (m := fun _ => none)
  simpa using h,AgesIn.start hl.fine,rfl,fun z hz => by rw [List.mem_singleton.1 hz];exact hl.len⟩
 stop n zs cur h hg hn he hq := by
  obtain ⟨m,h1,h2,h4,h5⟩ := h
  have h3 := aging_stop h1 hg.len hn ((less_iff hg he).2 hq)
  refine ⟨_,?_,age_step hR h2 hg he,head_snoc h4,fun z hz => (List.mem_append.1 hz).elim (h5 z) fun hz => by rw [List.mem_singleton.1 hz];exact (once_good hg hR hg he).len⟩
  rw [show ((zs.length : Int) - 1 + 1) = (zs.length : Int) by omega] at h3
  rw [List.length_append,List.length_singleton,show (((zs.length + 1 : Nat) : Int) - 1) = (zs.length : Int) by omega]
  exact h3
 more n zs cur h hg hn he hq := by
  obtain ⟨m,h1,h2,h4,h5⟩ := h
  have hr := once_round he hg.rise hg.len
  have hle : cur.length ≤ (onceP (n : Int) cur ps cur).1.length := rising_sub_le hg.rise fun x hx => (hr.mem x).2 (.inl hx)
  have h3 := aging_more h1 hg.len hn (fun e => hq ((less_iff hg he).1 e)) (by omega)
  refine ⟨_,?_,age_step hR h2 hg he,head_snoc h4,fun z hz => (List.mem_append.1 hz).elim (h5 z) fun hz => by rw [List.mem_singleton.1 hz];exact (once_good hg hR hg he).len⟩
  rw [show ((zs.length : Int) - 1 + 1) = (zs.length : Int) by omega] at h3
  rw [List.length_append,List.length_singleton,show (((zs.length + 1 : Nat) : Int) - 1) = (zs.length : Int) by omega]
  exact h3
theorem age_end {ps : List (PRule × Int)} {cn n : Nat} {T : Str → Option Int} {l : List PFact} {zs : List (List PFact)} {cur : List PFact} (h : AgeI ps cn T l n zs cur) (hn : ¬ n < cn) : AgesIn T zs cur ∧ zs.head? = some l ∧ ∀ z ∈ zs,z.length ≤ 200 := by
 obtain ⟨m,h1,h2,h3⟩ := h
 rw [aging_end h1 hn]
 exact ⟨h2,h3⟩
theorem ixR_zero {f : PFact} {l : List PFact} {zs : List (List PFact)} (h : zs.head? = some l) : (ixR f zs = 0) = (memF f l = true) := by
 cases zs with
 | nil => cases h
 | cons x L =>
  obtain rfl := Option.some.inj h
  rw [ixR]
  cases memF f x <;> simp
theorem older_ix {T : Str → Option Int} {zs : List (List PFact)} {cur : List PFact} (h : AgesIn T zs cur) {f k : PFact} (hf : f ∈ cur) (hk : k ∈ cur) : olderP T f k = decide (ixR k zs < ixR f zs) := by
 unfold olderP ageOf
 rw [h.age f hf,h.age k hk]
 exact decide_eq_decide.2 (by omega)
end
section
open Go.RowKit Go.Maps
theorem zeroStrE (w : World) : (zeroValue 9).run Tryz.prog w = .ok (.string .empty) w := by kernel_rfl
def HoldsE (D : DataW Unit) (f : Str → Option Str) : Prop := ∀ s,s.size ≤ maxLen → Maps.has D (keyL s) = (f s).isSome ∧ ∀ x,f s = some x → ∀ z,D.atKey (keyL s) z = .lit (keyL x)
def MapE (w : World) (b n : Nat) (f : Str → Option Str) : Prop :=
 ∃ D : DataW Unit,w.ownsMap Tryz.prog 9 (plainElem Tryz.prog 9) b n D ∧ HoldsE D f
section
variable {w w' : World} {b n : Nat} {f : Str → Option Str}
theorem MapE.lt (h : MapE w b n f) : b < w.heap.size := let ⟨_,h1,_⟩ := h;h1.lt
theorem MapE.kept {row : Option Nat} (h : MapE w b n f) (hg : w.grownBy w' row) (hne : some b ≠ row) : MapE w' b n f := let ⟨D,h1,h2⟩ := h;⟨D,h1.kept hg hne,h2⟩
theorem MapE.moved (h : MapE w b n f) (hb : w'.heap[b]? = w.heap[b]?) : MapE w' b n f := by
 obtain ⟨D,⟨es,clock,h1,h2⟩,h3⟩ := h
 exact ⟨D,⟨es,clock,hb.trans h1,h2⟩,h3⟩
theorem MapE.below {B : Nat} (h : MapE w b n f) (hb : Below B w w') (hB : b < B) : MapE w' b n f := h.moved (hb.block b hB)
theorem MapE.mono (h : MapE w b n f) {m : Nat} (hm : n ≤ m) : MapE w b m f := let ⟨D,h1,h2⟩ := h;⟨D,h1.mono hm,h2⟩
theorem MapE.alloc (h : MapE w b n f) (o : Obj) : MapE (w.alloc o) b n f := h.kept (World.grownBy_alloc w o none) (by simp)
theorem MapE.made (w : World) : MapE (w.alloc (.map #[] 0)) w.heap.size 0 (fun _ => none) := ⟨.map [],World.ownsMap_made _ _ _ _,fun _ _ => ⟨rfl,fun _ h => by cases h⟩⟩
theorem MapE.like (h : MapE w b n f) {g : Str → Option Str} (hg : ∀ s,s.size ≤ maxLen → f s = g s) : MapE w b n g := let ⟨D,h1,h2⟩ := h;⟨D,h1,fun s hs => by rw [← hg s hs];exact h2 s hs⟩
set_option maxRecDepth 100000 in
theorem MapE.getOk (h : MapE w b n f) {s : Str} (hs : s.size ≤ maxLen) : (Instr.lookup 88 (.map (some b)) (.string s) true).run Tryz.prog w = .ok (.tuple #[.string ((f s).getD .empty),.bool (f s).isSome]) w := by
 obtain ⟨D,h1,h2⟩ := h
 obtain ⟨v,ps,hrun,hv⟩ := h1.look_ok lawStr Tryz.underlying88 (zeroStrE w) (zd := .lit (.string [])) (zp := []) (plainElem_string (s := .empty) Tryz.underlying9 (by simp [maxLen])) (keyStr hs)
 obtain ⟨c,rfl,hc,-⟩ := plainElem_string_inv Tryz.underlying9 hv
 injection hc with hc _
 rw [hrun,(h2 s hs).1]
 cases hf : f s with
 | none =>
  have h0 : Maps.has D (keyL s) = false := by rw [(h2 s hs).1,hf];rfl
  rw [Maps.atKey_of_not_has h0] at hc
  injection hc with hc
  rw [keyL_inj (s := c) (t := .empty) hc.symm]
  rfl
 | some x =>
  rw [(h2 s hs).2 x hf] at hc
  injection hc with hc
  rw [keyL_inj (s := c) (t := x) hc.symm]
  rfl
set_option maxRecDepth 100000 in
theorem MapE.put (h : MapE w b n f) (hn : n < maxLen) {s : Str} (hs : s.size ≤ maxLen) {x : Str} (hx : x.size ≤ maxLen) :
 ∃ w',(Instr.mapUpdate 88 (.map (some b)) (.string s) (.string x)).run Tryz.prog w = .ok () w' ∧ MapE w' b (n + 1) (fun t => if t = s then some x else f t) ∧ w.grownBy w' (some b) := by
 obtain ⟨D,h1,h2⟩ := h
 have hM := h1.isMap
 obtain ⟨w',hrun,h3,h4⟩ := h1.update lawStr Tryz.underlying88 hn (keyStr hs) (plainElem_string Tryz.underlying9 hx)
 refine ⟨w',hrun,⟨_,h3,fun t ht => ?_⟩,h4⟩
 by_cases e : t = s
 ·subst e
  simp only [if_true]
  exact ⟨Maps.has_put_same hM (by trivial) _,fun y hy z => by
   obtain rfl := Option.some.inj hy
   exact Maps.atKey_put_same hM (by trivial) _ _⟩
 ·simp only [if_neg e]
  have hne : keyL t ≠ keyL s := fun h => e (keyL_inj h)
  rw [Maps.has_put_other hne]
  refine ⟨(h2 t ht).1,fun y hy z => ?_⟩
  rw [Maps.atKey_put_other hne]
  exact (h2 t ht).2 y hy z
end
def RangeE (w : World) (b r n : Nat) (f : Str → Option Str) (left : Lit → Bool) (cnt : Nat) : Prop :=
 ∃ D : DataW Unit,w.ranges Tryz.prog 9 (plainElem Tryz.prog 9) b r n D left cnt ∧ HoldsE D f ∧ cnt ≤ n
section
variable {w w' : World} {b r n : Nat} {f : Str → Option Str} {left : Lit → Bool} {cnt : Nat}
theorem RangeE.map (h : RangeE w b r n f left cnt) : MapE w b n f := let ⟨D,h1,h2,_⟩ := h;⟨D,h1.owns,h2⟩
theorem RangeE.kept {row : Option Nat} (h : RangeE w b r n f left cnt) (hg : w.grownBy w' row) (hb : some b ≠ row) (hr : some r ≠ row) : RangeE w' b r n f left cnt := let ⟨D,h1,h2,h3⟩ := h;⟨D,h1.kept hg hb hr,h2,h3⟩
theorem RangeE.lt (h : RangeE w b r n f left cnt) : r < w.heap.size := let ⟨_,h1,_⟩ := h;h1.lt
theorem RangeE.le (h : RangeE w b r n f left cnt) : cnt ≤ n := let ⟨_,_,_,h1⟩ := h;h1
theorem RangeE.left_eq (h : RangeE w b r n f left cnt) : w.rangeLeft b r = cnt := let ⟨_,h1,_⟩ := h;h1.left_eq
end
theorem size_le {w : World} {b n : Nat} {D : DataW Unit} (h : w.ownsMap Tryz.prog 9 (plainElem Tryz.prog 9) b n D) : Maps.size D ≤ n := by
 obtain ⟨es,clock,-,-,h1,rfl⟩ := h
 simp only [Maps.size,length_sorted,List.length_map,Array.length_toList]
 exact h1
theorem keyOf_string_inv {key : Value} {kl : Lit} (h : keyOf Tryz.prog 9 key = some kl) : ∃ s : Str,key = .string s ∧ kl = keyL s ∧ s.size ≤ maxLen := by
 cases key <;> simp [keyOf,Tryz.underlying9,mapKey] at h
 exact ⟨_,rfl,h.2.symm,h.1⟩
theorem struck_key (left : Lit → Bool) (s t : Str) : (fun z => left z && !z.sameKey (keyL s)) (keyL t) = (left (keyL t) && decide (t ≠ s)) := by
 show (left (keyL t) && !(keyL t).sameKey (keyL s)) = _
 congr 1
 by_cases e : t = s
 ·subst e
  simp [keyL,Lit.sameKey]
 ·rw [decide_eq_true e]
  cases h : (keyL t).sameKey (keyL s)
  ·rfl
  ·exact absurd (keyL_inj (WideAt.sameKey_eq h)) e
section
variable (w : World) {ops : Array Oper} {rest : List Oper} {o : Oper} {a : Act} {Q : Exit → Act → World → Prop}
set_option maxRecDepth 100000 in
theorem wpList_range_E (hg : o.guard = none) (m : Operand) (hop : o.op = Op.range 88 m) (b n : Nat) (f : Str → Option Str) (hm : a.eval m = .map (some b)) (h : MapE w b n f)
 (hK : ∀ w' left cnt,RangeE w' b w.heap.size n f left cnt → (∀ s : Str,s.size ≤ maxLen → left (keyL s) = (f s).isSome) → w.grownBy w' none → w'.heap.size = w.heap.size + 1 → wpList Tryz.prog ops Q rest (a.put o.dst (.pointer (some ⟨w.heap.size,0,none⟩))) w') :
 wpList Tryz.prog ops Q (o :: rest) a w := by
 obtain ⟨D,h1,h2⟩ := h
 refine wpList_range_own w hg m 88 hop 9 9 lawStr Tryz.underlying88 (plainElem Tryz.prog 9) b n D hm h1 ?_
 intro w' hr hgr hs
 have hE : RangeE w' b w.heap.size n f (Maps.has D) (Maps.size D) := ⟨D,hr,h2,size_le h1⟩
 have hL : ∀ s : Str,s.size ≤ maxLen → Maps.has D (keyL s) = (f s).isSome := fun s hs => (h2 s hs).1
 have hz := hK w' (Maps.has D) (Maps.size D) hE hL hgr hs
 exact hz
set_option maxRecDepth 100000 in
theorem wpList_next_E (hg : o.guard = none) (it : Operand) (hop : o.op = Op.next it false) (b r n : Nat) (f : Str → Option Str) (left : Lit → Bool) (cnt : Nat) (hit : a.eval it = .pointer (some ⟨r,0,none⟩)) (h : RangeE w b r n f left cnt)
 (hDone : (∀ kl,left kl = false) → wpList Tryz.prog ops Q rest (a.put o.dst (.tuple #[.bool false])) w)
 (hMore : ∀ (s c : Str) (w' : World) (cnt' : Nat),s.size ≤ maxLen → c.size ≤ maxLen → left (keyL s) = true → f s = some c → RangeE w' b r n f (fun z => left z && !z.sameKey (keyL s)) cnt' → cnt' < cnt → w.grownBy w' (some r) → w'.heap.size = w.heap.size →
  (Instr.entry (.pointer (some ⟨r,0,none⟩))).run Tryz.prog w' = .ok (.tuple #[.string s,.string c]) w' → wpList Tryz.prog ops Q rest (a.put o.dst (.tuple #[.bool true,.string s,.string c])) w') :
 wpList Tryz.prog ops Q (o :: rest) a w := by
 obtain ⟨D,h1,h2,h3⟩ := h
 refine wpList_next_ranges w hg it hop _ lawStr _ Value.string Value.string (fun key kl hk => by obtain ⟨s,rfl,-,-⟩ := keyOf_string_inv hk;exact ⟨s,rfl⟩)
  (fun v y hv => by obtain ⟨c,rfl,-,-⟩ := plainElem_string_inv Tryz.underlying9 hv;exact ⟨c,rfl⟩) b r n D left cnt hit h1 (fun _ hl => hDone hl) ?_
 intro x c kl y w' cnt' hkey hlk hv hat hrg hlt hgr hsz hen
 obtain ⟨s,e1,rfl,hs⟩ := keyOf_string_inv hkey
 injection e1 with e1
 subst e1
 obtain ⟨c',e2,rfl,hc⟩ := plainElem_string_inv Tryz.underlying9 hv
 injection e2 with e2
 subst e2
 refine hMore x c w' cnt' hs hc hlk ?_ ⟨D,hrg,h2,by omega⟩ hlt hgr hsz hen
 have hhas := Maps.has_true_of_atKey hat
 rw [(h2 x hs).1] at hhas
 obtain ⟨d,hd⟩ := Option.isSome_iff_exists.1 hhas
 have hd2 := (h2 x hs).2 d hd .nil
 rw [hat] at hd2
 injection hd2 with hd2
 rw [hd,keyL_inj (s := c) (t := d) hd2]
end
end
section
open Go.RowKit Go.Maps
def TryPost (a : PAtom) (f : PFact) (l : Binds) (n : Nat) (w : World) (e : Ending) (w' : World) : Prop :=
 Below w.heap.size w w' ∧ match meetP a f l with
  | none => e = .returned (.map none)
  | some m => ∃ b,e = .returned (.map (some b)) ∧ w.heap.size ≤ b ∧ MapE w' b (n + a.terms.length) (fun v => getB v m)
theorem try_none {a : PAtom} {f : PFact} {l : Binds} {n : Nat} {w w' : World} (h : meetP a f l = none) (hb : Below w.heap.size w w') : TryPost a f l n w (.returned (.map none)) w' := ⟨hb,by rw [h]⟩
theorem try_some {a : PAtom} {f : PFact} {l m : Binds} {n b : Nat} {w w' : World} (h : meetP a f l = some m) (hb : Below w.heap.size w w') (h1 : w.heap.size ≤ b) (h2 : MapE w' b (n + a.terms.length) (fun v => getB v m)) : TryPost a f l n w (.returned (.map (some b))) w' := ⟨hb,by rw [h];exact ⟨b,rfl,h1,h2⟩⟩
theorem getB_snoc {v x : Str} {m : Binds} (h : getB v m = none) : (fun t => if t = v then some x else getB t m) = fun t => getB t (m ++ [⟨v,x⟩]) := funext fun t => by
 rw [getB_append]
 by_cases e : t = v
 ·subst e
  rw [if_pos rfl,h]
  simp [getB]
 ·rw [if_neg e]
  have : getB t [⟨v,x⟩] = none := getB_none.2 (by simp [Vs];exact e)
  rw [this]
  cases getB t m <;> rfl
def taken (f : Str → Option Str) (left : Lit → Bool) : Str → Option Str := fun t => if left (keyL t) then none else f t
theorem taken_step {f : Str → Option Str} {left : Lit → Bool} {s c : Str} (h : f s = some c) : (fun t => if t = s then some c else taken f left t) = taken f (fun z => left z && !z.sameKey (keyL s)) := funext fun t => by
 unfold taken
 have hk : (left (keyL t) && !(keyL t).sameKey (keyL s)) = (left (keyL t) && decide (t ≠ s)) := struck_key left s t
 show (if t = s then some c else if left (keyL t) = true then none else f t) = if (left (keyL t) && !(keyL t).sameKey (keyL s)) = true then none else f t
 rw [hk]
 by_cases e : t = s
 ·subst e;simp [h]
 ·simp [e]
theorem taken_all {f : Str → Option Str} {left : Lit → Bool} (h : ∀ kl,left kl = false) : taken f left = f := funext fun t => by unfold taken;rw [h];rfl
theorem taken_none {f : Str → Option Str} {left : Lit → Bool} (h : ∀ s : Str,s.size ≤ maxLen → left (keyL s) = (f s).isSome) (s : Str) (hs : s.size ≤ maxLen) : none = taken f left s := by
 unfold taken
 rw [h s hs]
 cases f s <;> rfl
set_option maxRecDepth 100000 in
set_option maxHeartbeats 0 in
theorem tryRef {S S2 : Nat → Prop} (a : PAtom) (tv : Value) (f : PFact) (fv : Value) (l : Binds) (b n : Nat) (w : World) (ht : RdTerms S w tv a.terms) (hf : RdStrs S2 w fv f.args) (he : MapE w b n (fun v => getB v l))
 (n1 : a.terms.length ≤ 1048576) (_n2 : f.args.length ≤ 1048576) (n3 : n ≤ 1073741824) (s1 : ∀ t ∈ a.terms,t.name.size ≤ 1048576) (s2 : ∀ x ∈ f.args,x.size ≤ 1048576) :
 Calls Tryz.prog 32 #[.agg #[.bool a.neg,.string a.name,tv],.agg #[.string f.name,fv],.map (some b)] w (TryPost a f l n w) := by
 have hmm := @run_makeMap Tryz.prog
 obtain ⟨ta,tc,rfl,-,-,-⟩ := id ht.form
 obtain ⟨fa,fc,rfl,-,-,-⟩ := id hf.form
 have HT := ζ ht
 have HF := ζ hf
 have HM := ζ he
 have S1 := ζ s1
 have S2' := ζ s2
 have hbl := he.lt
 clear ht hf he s1 s2
 obtain ⟨W0,hW0⟩ : ∃ W0 : World,(w.alloc (.cells #[.bool a.neg,.string a.name,.slice ta a.terms.length tc] 78)).alloc (.cells #[.string f.name,.slice fa f.args.length fc] 27) = W0 := ⟨_,rfl⟩
 have hB0 : Below w.heap.size w W0 := by subst hW0;exact ((ζb _ _).alloc (ζn _) _).alloc (by simp) _
 obtain ⟨bo,hbo⟩ : ∃ bo,W0.heap.size = bo := ⟨_,rfl⟩
 have HS0 := ζ (show bo = w.heap.size + 2 by rw [← hbo,← hW0];simp)
 have t0 : W0.cell? ⟨w.heap.size,2,none⟩ = some (.slice ta a.terms.length tc) := by subst hW0;simp
 have t1 : W0.cell? ⟨w.heap.size + 1,1,none⟩ = some (.slice fa f.args.length fc) := by subst hW0;simp
 have t2 : W0.cell? ⟨w.heap.size,1,none⟩ = some (.string a.name) := by subst hW0;simp
 have t3 : W0.cell? ⟨w.heap.size + 1,0,none⟩ = some (.string f.name) := by subst hW0;simp
 have HB0 := ζ hB0
 clear hB0
 by_cases hn : a.name = f.name
 case neg =>
  have gz : (a.name.toList == f.name.toList) = false := by rw [beq_toList];exact decide_eq_false hn
  have HE := ζ (meetP_name (l := l) hn)
  clear hn
  go_enter Tryz.func32,Tryz.ntmps32
  go_wp2
  go_ret
  exact try_none HE.out HB0.out
 have gz : (a.name.toList == f.name.toList) = true := by rw [hn];simp
 have HN := ζ hn
 clear hn
 by_cases hq : a.terms.length = f.args.length
 case neg =>
  have i1 : ¬ (a.terms.length : Int) = (f.args.length : Int) := by omega
  have HE := ζ (meetP_len (l := l) hq)
  clear hq
  go_enter Tryz.func32,Tryz.ntmps32
  go_wp2
  go_ret
  exact try_none HE.out HB0.out
 have HE := ζ (show meetP a f l = meetL l a.terms f.args from if_pos ⟨HN.out,hq⟩)
 have HQ := ζ hq
 have i1 : (a.terms.length : Int) = (f.args.length : Int) := by omega
 clear hq
 go_enter Tryz.func32,Tryz.ntmps32
 go_wp2_with (first
  | (at_range;refine wpList_range_E _ rfl _ rfl b n _ rfl ((HM.out.below HB0.out hbl).alloc _) ?_;intro w0 left cnt hrg0 hl0 hg0 hz0)
  | go_in)
 go_frame
 rw [hW0] at *
 have hs1 : (W0.alloc (.map #[] 0)).heap.size = bo + 1 := by simp [hbo]
 rw [hs1] at hrg0 hz0 ⊢
 have HM0 := ζ (show MapE w0 bo 0 (taken (fun v => getB v l) left) by rw [← hbo];exact (((MapE.made W0).kept hg0 (by simp)).like (taken_none hl0)))
 have HG0 := ζ (((ζb bo W0).alloc (by omega) (.map #[] 0)).grown hg0 (by simp [hbo]) (fun j hj => by cases hj))
 have HR0 := ζ hrg0
 have T0 := ζ t0
 have T1 := ζ t1
 clear hrg0 hg0 hl0 hs1 hz0 t0 t1 t2 t3 hmm
 go_loopw [8] (fun _ wr => ∃ left cnt m,m + cnt ≤ n ∧ Hid (RangeE wr b (bo + 1) n (fun v => getB v l) left cnt) ∧ Hid (MapE wr bo m (taken (fun v => getB v l) left)) ∧ Hid (Below bo W0 wr)) (fun _ wr => wr.rangeLeft b (bo + 1))
 case atStart => exact ⟨left,cnt,0,by have := HR0.out.le;omega,HR0,HM0,HG0⟩
 case round =>
  clear HR0 HM0 HG0
  obtain ⟨left,cnt,m,hmc,HR,HO,HB⟩ := hrel
  have hsz : bo ≤ wr.heap.size := by rw [← hbo];exact HB.out.size
  go_wp2_with (first
   | (at_next;refine wpList_next_E _ rfl _ rfl b (bo + 1) n _ left cnt rfl HR.out ?_ ?_)
   | go_in)
  ·intro hd
   have HO1 := ζ (show MapE wr bo n (fun v => getB v l) by have h := HO.out;rw [taken_all hd] at h;exact h.mono (by omega))
   have a2 := (ζl HB.out (show w.heap.size < bo by have := HS0.out;omega) 2).trans T0.out
   have HBB := ζ HB.out
   clear hd HR HO HB
   go_wp2
   clear a2
   go_loopw [43] (fun i wx => ∃ (k : Nat) (m : Binds),k ≤ a.terms.length ∧ i = .int .i64 k ∧ Hid (MapE wx bo (n + k) (fun v => getB v m)) ∧ Hid (Below bo W0 wx) ∧ Hid (meetP a f l = meetL m (a.terms.drop k) (f.args.drop k))) (fun i _ => a.terms.length - (intOf i).toNat)
   case atStart => exact ⟨0,l,Nat.zero_le _,rfl,HO1,HBB,ζ (by rw [HE.out];rfl)⟩
   case round =>
    clear HO1 HBB
    obtain ⟨k,m,hk,rfl,HO,HB,HMM⟩ := hrel
    have hsz : bo ≤ wr.heap.size := by rw [← hbo];exact HB.out.size
    have HBw := ζ (HB0.out.trans (HB.out.mono (by have := HS0.out;omega)))
    by_cases hlt : k < a.terms.length
    ·obtain ⟨t,hx⟩ : ∃ t,a.terms[k]? = some t := ⟨_,ζe hlt⟩
     obtain ⟨z,hy⟩ : ∃ z,f.args[k]? = some z := ⟨_,ζe (by omega)⟩
     obtain ⟨b1,o1,rfl,-,-,d0,d1⟩ := RdTerms.at (HT.out.up HBw.out) hx
     obtain ⟨b2,o2,rfl,-,hb2,-⟩ := RdStrs.at HF.out hy
     have c2 : wr.cell? ⟨b2,o2 + k,none⟩ = some (.string z) := by
      obtain ⟨b3,o3,e3,-,-,h3⟩ := RdStrs.at (HF.out.up HBw.out) hy
      injection e3 with e3
      injection e3 with e3 e4 _
      rw [e3,e4];exact h3
     have j2 : b2 < wr.heap.size := by have := HS0.out;omega
     have c1 := (ζl HB.out (show w.heap.size + 1 < bo by have := HS0.out;omega) 1).trans T1.out
     have j1 : w.heap.size + 1 < wr.heap.size := by have := HS0.out;omega
     have i2 : (0 : Int) ≤ (k : Int) := by omega
     have i3 : (k : Int) < (f.args.length : Int) := by omega
     have hts : t.name.size ≤ maxLen := by have := S1.out t (ζm hx);unfold maxLen;omega
     have hzs : z.size ≤ maxLen := by have := S2'.out z (ζm hy);unfold maxLen;omega
     have HM0 := ζ (show meetP a f l = meetL m (t :: a.terms.drop (k + 1)) (z :: f.args.drop (k + 1)) by rw [HMM.out,drop_cons hx,drop_cons hy])
     have hoa := HO.out.alloc (.cells #[.bool t.var,.string t.name] 104)
     have hba := HB.out.alloc hsz (.cells #[.bool t.var,.string t.name] 104)
     have HOA := ζ hoa
     have HBA := ζ hba
     clear hx hy HMM hoa hba
     cases htv : t.var
     ·have hv : valT m t = some t.name := by unfold valT;rw [htv];rfl
      rw [htv] at d0 HOA HBA
      by_cases hz : t.name = z
      ·have gz2 : (t.name.toList == z.toList) = true := by rw [hz];simp
       have HM1 := ζ (HM0.out.trans (meetL_yes hv hz))
       have HO2 := ζ (HOA.out.mono (show n + k ≤ n + (k + 1) by omega))
       clear hz hv htv HM0 HOA
       go_wp2
       go_roundw
       case rel => exact ⟨k + 1,m,by omega,by go_num,HO2,HBA,HM1⟩
       case measure => simp [intOf];omega
      ·have gz2 : (t.name.toList == z.toList) = false := by rw [beq_toList];exact decide_eq_false hz
       have HR := ζ (HM0.out.trans (meetL_no hv hz))
       clear hz hv htv HM0 HOA
       go_wp2
       go_ret
       exact try_none HR.out (HB0.out.trans (HBA.out.mono (by have := HS0.out;omega)))
     ·have hv : valT m t = getB t.name m := by unfold valT;rw [htv];rfl
      rw [htv] at d0 HOA HBA
      have hget := HOA.out.getOk hts
      cases hg : getB t.name m with
      | none =>
       rw [hg] at hget hv
       obtain ⟨w5,hput,hm5,hg5⟩ := HOA.out.put (s := t.name) (x := z) (by unfold maxLen;omega) hts hzs
       rw [getB_snoc hg] at hm5
       have HM1 := ζ (HM0.out.trans (meetL_new hv))
       have HO5 := ζ hm5
       have HB5 := ζ (HBA.out.grown hg5 (by simp;omega) (fun j hj => by cases hj;exact ζn _))
       have hq5 : ∀ c,c < wr.heap.size + 1 → c ≠ bo → ∀ o,w5.cell? ⟨c,o,none⟩ = (wr.alloc (.cells #[.bool true,.string t.name] 104)).cell? ⟨c,o,none⟩ := fun c hc hne o => by
        have := hg5.block c (by simp;omega) (fun e => hne (Option.some.inj e))
        simp only [World.cell?,this]
       have hbo := HO.out.lt
       have e1 : w5.cell? ⟨wr.heap.size,1,none⟩ = some (.string t.name) := (hq5 wr.heap.size (by omega) (by omega) 1).trans (by simp)
       have e2 : w5.cell? ⟨w.heap.size + 1,1,none⟩ = some (.slice (some ⟨b2,o2,none⟩) f.args.length fc) := (hq5 _ (by omega) (by have := HS0.out;omega) 1).trans ((ζl ((ζb wr.heap.size wr).alloc (ζn _) _) j1 1).trans c1)
       have e3 : w5.cell? ⟨b2,o2 + k,none⟩ = some (.string z) := (hq5 b2 (by omega) (by have := HS0.out;omega) (o2 + k)).trans ((ζl ((ζb wr.heap.size wr).alloc (ζn _) _) j2 (o2 + k)).trans c2)
       clear hq5 hg hv htv HM0 HOA hm5 hg5
       go_wp2
       go_roundw
       case rel => exact ⟨k + 1,_,by omega,by go_num,HO5,HB5,HM1⟩
       case measure => simp [intOf];omega
      | some x =>
       rw [hg] at hget hv
       by_cases hz : x = z
       ·have gz2 : (x.toList == z.toList) = true := by rw [hz];simp
        have HM1 := ζ (HM0.out.trans (meetL_yes hv hz))
        have HO2 := ζ (HOA.out.mono (show n + k ≤ n + (k + 1) by omega))
        clear hz hv htv HM0 hg HOA
        go_wp2
        go_roundw
        case rel => exact ⟨k + 1,m,by omega,by go_num,HO2,HBA,HM1⟩
        case measure => simp [intOf];omega
       ·have gz2 : (x.toList == z.toList) = false := by rw [beq_toList];exact decide_eq_false hz
        have HR := ζ (HM0.out.trans (meetL_no hv hz))
        clear hz hv htv HM0 hg HOA
        go_wp2
        go_ret
        exact try_none HR.out (HB0.out.trans (HBA.out.mono (by have := HS0.out;omega)))
    ·have HR := ζ (show meetP a f l = some m by rw [HMM.out,List.drop_eq_nil_of_le (by omega)];rfl)
     have hke : k = a.terms.length := by omega
     subst hke
     clear HMM
     go_wp2
     go_ret
     exact try_some HR.out HBw.out (by have := HS0.out;omega) HO.out
  ·intro s x w1 cnt1 hss hxs hls hfs hrg1 hlt hg1 hz1 hen
   have HO1 := ζ (HO.out.kept hg1 (by simp))
   have hB1 := HB.out.grown hg1 hsz (fun j hj => by cases hj;exact Nat.le_succ _)
   obtain ⟨w2,hput,hm2,hg2⟩ := HO1.out.put (s := s) (x := x) (by unfold maxLen;omega) hss hxs
   have hrg2 := hrg1.kept hg2 (fun e => by have := Option.some.inj e;have := HS0.out;omega) (fun e => by have := Option.some.inj e;omega)
   have HR2 := ζ hrg2
   have HO2 := ζ (show MapE w2 bo (m + 1) (taken (fun v => getB v l) (fun z => left z && !z.sameKey (keyL s))) by rw [← taken_step hfs];exact hm2)
   have HB2 := ζ (hB1.grown hg2 (by have := hB1.size;omega) (fun j hj => by cases hj;exact ζn _))
   clear hls hfs hrg1 hg1 hm2 hg2 hB1 HO1 hss hxs hrg2
   go_wp2
   go_roundw
   case rel => exact ⟨_,cnt1,m + 1,by omega,HR2,HO2,HB2⟩
   case measure => rw [HR2.out.left_eq,HR.out.left_eq];exact hlt
end
section
open Go.RowKit
theorem fillArgs_val {l : Binds} : ∀ {ts : List PTerm} {ns : List Str},fillArgs l ts = some ns → ∀ t ∈ ts,∃ n ∈ ns,valT l t = some n
 | [],_,_,t,ht => by simp at ht
 | u :: ts,ns,h,t,ht => by
  unfold fillArgs at h
  cases hu : valT l u with
  | none => rw [hu] at h;cases h
  | some n =>
   rw [hu] at h
   dsimp only at h
   obtain ⟨ms,hm,rfl⟩ := Option.map_eq_some_iff.1 h
   rcases List.mem_cons.1 ht with rfl | ht
   ·exact ⟨n,by simp,hu⟩
   ·obtain ⟨x,hx,hv⟩ := fillArgs_val hm t ht
    exact ⟨x,by simp [hx],hv⟩
theorem body_bad_atoms {l : List PAtom} (h : bodyBad l = 0) {a : PAtom} (ha : a ∈ l) : atomBad a = 0 := by
 have h1 : firstBad l = 0 := by
  unfold bodyBad at h
  split at h
  ·exact absurd h (by decide)
  ·split at h
   ·rename_i hb;exact absurd h hb
   ·rename_i hb;simpa using hb
 exact firstBad_mem h1 a ha
theorem told_sizes {M : List PFact} {B : List PAtom} {m : Binds} (hM : Good M) (hz : bodyBad B = 0) (ht : Told (fun _ => M) B m) (hB : ∀ a ∈ B,∀ t ∈ a.terms,t.name.size ≤ 1048576) : ∀ y ∈ m,y.var.size ≤ 1048576 ∧ y.name.size ≤ 1048576 := fun y hy => by
 obtain ⟨-,hnd,hv,ha⟩ := ht
 obtain ⟨a0,ha0,hva0⟩ := (hv y.var).1 (List.mem_map.2 ⟨y,hy,rfl⟩)
 obtain ⟨a,hma,hn,hva⟩ := (mem_heldOf y.var B).1 (body_free hz ha0 hva0)
 obtain ⟨t,htt,htv,hte⟩ := (mem_varsOf _ _).1 hva
 obtain ⟨j,hj⟩ := List.mem_iff_getElem?.1 hma
 obtain ⟨f,hf,hfm⟩ := ha j a hj
 rw [hn] at hfm
 have hfM := hM.fine f ((memF_iff f M).1 hfm)
 obtain ⟨-,-,hargs⟩ := wrongF_zero.1 hfM
 refine ⟨by rw [← hte];exact hB a hma t htt,?_⟩
 obtain ⟨n,hn1,hn2⟩ := fillArgs_val (fillP_name hf).2 t htt
 unfold valT at hn2
 rw [if_pos htv,hte,getB_of_mem hnd hy] at hn2
 rw [Option.some.inj hn2]
 exact Nat.le_trans (named_size (hargs n hn1)) (by decide)
theorem ruleG_in {age : Str → Option Int} {M : List PFact} {r : PRule} {f : PFact} {ks : List PFact} (h : ruleG age M r f = some ks) : ∀ k ∈ ks,k ∈ M := by
 unfold ruleG at h
 split at h
 ·cases h
 ·rename_i s hs
  split at h
  ·cases h
  ·rename_i h0
   obtain ⟨l,hf,rfl⟩ := Option.map_eq_some_iff.1 h
   have hm := List.mem_of_find?_eq_some hf
   intro k hk
   obtain ⟨a,ha,hfa⟩ := List.mem_filterMap.1 hk
   by_cases hn : a.neg = true
   ·rw [if_pos hn] at hfa;cases hfa
   ·rw [if_neg hn] at hfa
    rcases allP_cases (subBody s r.body) M with ⟨h1,-⟩ | ⟨-,-,-,-,h5⟩
    ·exact absurd h1 h0
    ·obtain ⟨j,hj⟩ := List.mem_iff_getElem?.1 ha
     obtain ⟨x,hx,hxm⟩ := ((h5 l).1 hm).2.2.2 j a hj
     rw [hfa] at hx
     obtain rfl := Option.some.inj hx
     rw [show a.neg = false by simpa using hn] at hxm
     exact (memF_iff k M).1 hxm
theorem getB_take {l : Binds} (hd : Nd l) {j : Nat} {y : PBind} (h : l[j]? = some y) : (fun t => if t = y.var then some y.name else getB t (l.take j)) = fun t => getB t (l.take (j + 1)) := by
 have hn : getB y.var (l.take j) = none := by
  rw [getB_none]
  intro hm
  obtain ⟨z,hz,e⟩ := List.mem_map.1 hm
  have hnd : (l.take (j + 1)).Pairwise fun a b => a.var ≠ b.var := by
   have h' : (l.map (·.var)).Pairwise (· ≠ ·) := hd
   rw [List.pairwise_map] at h'
   exact h'.sublist (List.take_sublist _ _)
  rw [List.take_add_one,h] at hnd
  exact (List.pairwise_append.1 hnd).2.2 z hz y (by simp) e
 rw [List.take_add_one,h]
 exact getB_snoc hn
theorem Owned.last4 {α : Type} {R : Reader α} {B : Nat} {e : TypeId} {S : Nat → Prop} {w : World} {g n c : Nat} {xs : List α} {z x : α} {c0 c1 c2 c3 : Value} (hR : Steady R) (h : Owned 4 R B e S w (.slice (some ⟨g,0,none⟩) n c) (xs ++ [z]))
 (hx : R (fun b => S b ∧ b ≠ g) w [c0,c1,c2,c3] x) :
 Owned 4 R B e S ((((w.setCell ⟨g,xs.length * 4,none⟩ c0).setCell ⟨g,xs.length * 4 + 1,none⟩ c1).setCell ⟨g,xs.length * 4 + 2,none⟩ c2).setCell ⟨g,xs.length * 4 + 3,none⟩ c3) (.slice (some ⟨g,0,none⟩) n c) (xs ++ [x]) ∧
  w.grownBy ((((w.setCell ⟨g,xs.length * 4,none⟩ c0).setCell ⟨g,xs.length * 4 + 1,none⟩ c1).setCell ⟨g,xs.length * 4 + 2,none⟩ c2).setCell ⟨g,xs.length * 4 + 3,none⟩ c3) (some g) := by
 obtain ⟨css,h1,h2,ho,h3⟩ := h
 have hl : css.length = xs.length + 1 := by simpa using h1
 obtain ⟨cs0,zz,rfl⟩ : ∃ cs0 zz,css = cs0 ++ [zz] := ⟨css.dropLast,css.getLast (by intro e;rw [e] at hl;simp at hl),(List.dropLast_concat_getLast _).symm⟩
 have hl0 : cs0.length = xs.length := by simpa using hl
 have hz4 := h2 zz (by simp)
 obtain ⟨z0,z1,z2,z3,rfl⟩ : ∃ z0 z1 z2 z3,zz = [z0,z1,z2,z3] := by
  match zz,hz4 with
  | [a,b,c,d],_ => exact ⟨a,b,c,d,rfl⟩
 have hf : ∀ l : List (List Value),(∀ cs ∈ l,cs.length = 4) → l.flatten.length = l.length * 4 := by
  intro l
  induction l with
  | nil => intro _;rfl
  | cons y l ih => intro hy;rw [List.flatten_cons,List.length_append,ih (fun c hc => hy c (by simp [hc])),hy y (by simp),List.length_cons];omega
 have hF : cs0.flatten.length = xs.length * 4 := by rw [hf cs0 (fun c hc => h2 c (by simp [hc])),hl0]
 have hn : n = (xs ++ [z]).length := by
  rcases ho.2 with ⟨hv,hnn⟩ | ⟨g',cap',cur,hv,-⟩
  ·cases hv
  ·injection hv
 subst hn
 obtain ⟨o1,k1⟩ := ho.stored (xs.length * 4) c0
 obtain ⟨o2,k2⟩ := o1.stored (xs.length * 4 + 1) c1
 obtain ⟨o3,k3⟩ := o2.stored (xs.length * 4 + 2) c2
 obtain ⟨o4,k4⟩ := o3.stored (xs.length * 4 + 3) c3
 have hk := ((k1.trans k2).trans k3).trans k4
 have hfl : ((((cs0 ++ [[z0,z1,z2,z3]]).flatten.set (xs.length * 4) c0).set (xs.length * 4 + 1) c1).set (xs.length * 4 + 2) c2).set (xs.length * 4 + 3) c3 = (cs0 ++ [[c0,c1,c2,c3]]).flatten := by
  rw [List.flatten_append,List.flatten_append,← hF]
  simp [List.set_append_right]
 rw [hfl] at o4
 have hlen : (xs ++ [z]).length = (xs ++ [x]).length := by simp
 rw [hlen] at o4 ⊢
 refine ⟨⟨cs0 ++ [[c0,c1,c2,c3]],by simp [hl0],fun cs hc => ?_,o4,fun i cs y hc hy => ?_⟩,hk⟩
 ·rcases List.mem_append.1 hc with hc | hc
  ·exact h2 cs (by simp [hc])
  ·rw [List.mem_singleton.1 hc];rfl
 ·have hag : Agree (fun b => S b ∧ some b ≠ (Value.slice (some ⟨g,0,none⟩) (xs ++ [x]).length c).ownBlock) w ((((w.setCell ⟨g,xs.length * 4,none⟩ c0).setCell ⟨g,xs.length * 4 + 1,none⟩ c1).setCell ⟨g,xs.length * 4 + 2,none⟩ c2).setCell ⟨g,xs.length * 4 + 3,none⟩ c3) := ⟨hk.size,fun b hb hlt => hk.block b hlt hb.2⟩
  by_cases hi : i < xs.length
  ·rw [List.getElem?_append_left (by omega)] at hc hy
   have := h3 i cs y (by rw [List.getElem?_append_left (by omega)];exact hc) (by rw [List.getElem?_append_left (by omega)];exact hy)
   exact hR.agree hag this
  ·have hi2 : i = xs.length := by
    have := (List.getElem?_eq_some_iff.1 hy).1
    simp at this
    omega
   subst hi2
   rw [List.getElem?_append_right (by omega),hl0,Nat.sub_self] at hc
   rw [List.getElem?_append_right (by omega),Nat.sub_self] at hy
   obtain rfl := Option.some.inj hc
   obtain rfl := Option.some.inj hy
   exact hR.agree hag (hR.more (fun b hb _ => ⟨hb.1,fun e => hb.2 (Option.some.inj e)⟩) hx)
end
section
open Go.RowKit Go.Maps
attribute [local go_sem ↓] Go.wp_at_zero Go.wp_at_succ
set_option maxRecDepth 100000 in
set_option maxHeartbeats 0 in
theorem fillRef {S : Nat → Prop} (a : PAtom) (tv : Value) (l : Binds) (b n : Nat) (w : World) (ht : RdTerms S w tv a.terms) (he : MapE w b n (fun v => getB v l)) (n1 : a.terms.length ≤ 1048576) (s1 : ∀ t ∈ a.terms,t.name.size ≤ 1048576) :
 Calls Tryz.prog 33 #[.agg #[.bool a.neg,.string a.name,tv],.map (some b)] w (FillPost a l w) := by
 obtain ⟨ta,tc,rfl,-,-,-⟩ := id ht.form
 have HT := ζ ht
 have HM := ζ he
 have S1 := ζ s1
 have hbl := he.lt
 clear ht he s1
 go_enter Tryz.func33,Tryz.ntmps33
 go_wp2
 have HB0 := ζ ((((ζb w.heap.size w).alloc (ζn _) (.cells #[.bool a.neg,.string a.name,.slice ta a.terms.length tc] 78)).alloc (by simp) (.cells #[.string ⟨#[]⟩,.slice none 0 0] 27)).alloc (by simp;omega) (.cells #[.string a.name,.slice none 0 0] 27))
 have HK1 := ζ (((show Blk ((w.alloc (.cells #[.bool a.neg,.string a.name,.slice ta a.terms.length tc] 78)).alloc (.cells #[.string ⟨#[]⟩,.slice none 0 0] 27)) (w.heap.size + 1) 27 #[.string ⟨#[]⟩,.slice none 0 0] from heap_new_at (by simp)).alloc (.cells #[.string a.name,.slice none 0 0] 27)))
 have HK2 := ζ (show Blk (((w.alloc (.cells #[.bool a.neg,.string a.name,.slice ta a.terms.length tc] 78)).alloc (.cells #[.string ⟨#[]⟩,.slice none 0 0] 27)).alloc (.cells #[.string a.name,.slice none 0 0] 27)) (w.heap.size + 1 + 1) 27 #[.string a.name,.slice none 0 0] from heap_new_at (by simp))
 go_loopw [17] (fun i wr => ∃ (k : Nat) (ns : List Str) (av : Value),k ≤ a.terms.length ∧ i = .int .i64 k ∧ Hid (Below w.heap.size w wr) ∧ Hid (fillArgs l (a.terms.take k) = some ns) ∧ Hid (Blk wr (w.heap.size + 1) 27 #[.string ⟨#[]⟩,.slice none 0 0]) ∧ Hid (Blk wr (w.heap.size + 1 + 1) 27 #[.string a.name,av]) ∧ Hid (Owned 1 RStr (w.heap.size + 3) 9 (fun _ => False) wr av ns)) (fun i _ => a.terms.length - (intOf i).toNat)
 case atStart => exact ⟨0,[],_,Nat.zero_le _,rfl,HB0,ζ (by rw [List.take_zero];rfl),HK1,HK2,ζ Owned.nil⟩
 case round =>
  clear HB0 HK1 HK2
  obtain ⟨k,ns,av,hk,rfl,HB,HF,HK1,HK2,HO⟩ := hrel
  obtain ⟨aa,ac,efm,-,-,-⟩ := (HO.out.read ζS).form
  subst efm
  have HNL := ζ (show ns.length < 1099511627776 by have := fillArgs_len HF.out;rw [List.length_take] at this;omega)
  have hsz : w.heap.size + 3 ≤ wr.heap.size := by have := HK2.out.lt;omega
  by_cases hlt : k < a.terms.length
  ·obtain ⟨t,hx⟩ : ∃ t,a.terms[k]? = some t := ⟨_,ζe hlt⟩
   obtain ⟨b1,o1,rfl,-,-,d0,d1⟩ := RdTerms.at (HT.out.up HB.out) hx
   have HS := ζ (fun n (hv : valT l t = some n) => (show fillArgs l (a.terms.take (k + 1)) = some (ns ++ [n]) by rw [List.take_add_one,hx];exact fillArgs_snoc hv HF.out))
   have HNO := ζ (fun (hv : valT l t = none) => (show fillP a l = none by unfold fillP;rw [fillArgs_none hv (ζm hx)];rfl))
   obtain ⟨W1,hW1⟩ : ∃ W1 : World,wr.alloc (.cells #[.bool t.var,.string t.name] 104) = W1 := ⟨_,rfl⟩
   have hs1 : W1.heap.size = wr.heap.size + 1 := by subst hW1;simp
   have hbx : Below wr.heap.size wr W1 := by subst hW1;exact (ζb _ _).alloc (ζn _) _
   have HB1 := ζ (HB.out.trans (hbx.mono HB.out.size))
   have HO1 := ζ (HO.out.below ζS hbx)
   have HK11 := ζ (HK1.out.below hbx (by omega))
   have HK21 := ζ (HK2.out.below hbx (by omega))
   have hts : t.name.size ≤ maxLen := by have := S1.out t (ζm hx);unfold maxLen;omega
   have hget := (HM.out.below HB1.out hbl).getOk hts
   have e1 : W1.cell? ⟨wr.heap.size,1,none⟩ = some (.string t.name) := by subst hW1;simp
   have e0 : W1.cell? ⟨wr.heap.size,0,none⟩ = some (.bool t.var) := by subst hW1;simp
   have hne : wr.heap.size ≠ w.heap.size + 1 + 1 := by omega
   clear hx hbx HB HO HK1 HK2
   cases htv : t.var
   ·have hv : valT l t = some t.name := by unfold valT;rw [htv];rfl
    have HF1 := ζ (HS.out _ hv)
    rw [htv] at d0 hW1 e0
    clear hv htv HNO hget
    have g1 : W1.cell? ⟨w.heap.size + 1 + 1,1,none⟩ = some (.slice aa ns.length ac) := HK21.out.cell 1
    go_wp2_with (at_builtin;refine wpList_append_one (B := w.heap.size + 3) (e := 9) (S := fun _ => False) (by rfl) _ _ 25 (by rfl) ζS rowStrs _ ns (by rfl) (HO1.out.alloc ζS _) (wr.heap.size + 1) 1 #[.string t.name] 9 (0,0) t.name (by rfl) (heap_new_at hs1) rfl (by simp [Value.oneCell']) rfl HNL.out (by simp;omega) ?_;intro v2 w2 hown2 hg2 hat2;obtain ⟨a2,c2,rfl,-,-,-⟩ := id (hown2.read ζS).form;rw [show (ns ++ [t.name]).length = ns.length + 1 by simp] at hown2;have HO2 := ζ hown2;have HB2 := ζ ((HB1.out.alloc (by have := HB1.out.size;omega) _).grown hg2 (by have := HB1.out.size;simp;omega) (fun q hq => by have := (HO1.out.row_lt hq).1;omega));have HK12 := ζ ((HK11.out.alloc _).grown hg2 (fun e => by have := (HO1.out.row_lt e.symm).1;omega));have HK22 := ζ ((HK21.out.alloc _).grown hg2 (fun e => by have := (HO1.out.row_lt e.symm).1;omega));have g2 : w2.cell? ⟨w.heap.size + 1 + 1,1,none⟩ = some (.slice aa ns.length ac) := HK22.out.cell 1;have x2 := HK22.out.frozen 1;clear hown2 hg2 hat2)
    have hcs : (2 : Nat) ≠ 1 := by omega
    go_roundw
    case rel => exact ⟨k + 1,_,_,by omega,by go_num,ζ (HB2.out.setCell (by show w.heap.size ≤ w.heap.size + 1 + 1;omega) _),HF1,ζ (HK12.out.far (p := ⟨w.heap.size + 1 + 1,1,none⟩) (by show w.heap.size + 1 ≠ w.heap.size + 1 + 1;omega) _),ζ (HK22.out.set_ 1 _),ζ (HO2.out.setCell ζS (p := ⟨w.heap.size + 1 + 1,1,none⟩) (fun h => h) (fun e => by have := (HO2.out.row_lt e).1;have h2 : w.heap.size + 3 ≤ w.heap.size + 1 + 1 := this;omega) _)⟩
    case measure => simp [intOf];omega
   ·have hv : valT l t = getB t.name l := by unfold valT;rw [htv];rfl
    rw [htv] at d0 hW1 e0
    clear htv
    cases hg : getB t.name l with
    | none =>
     rw [hg] at hget hv
     have HE := ζ (HNO.out hv)
     clear hg hv HS HNO
     have z0 : W1.cell? ⟨w.heap.size + 1,0,none⟩ = some (.string ⟨#[]⟩) := HK11.out.cell 0
     have z1 : W1.cell? ⟨w.heap.size + 1,1,none⟩ = some (.slice none 0 0) := HK11.out.cell 1
     have x0 := HK11.out.frozen 0;have x1 := HK11.out.frozen 1
     have g1 : W1.cell? ⟨w.heap.size + 1 + 1,1,none⟩ = some (.slice aa ns.length ac) := HK21.out.cell 1
     go_wp2
     refine bodyPost_ret (v := .tuple #[.agg #[.string ⟨#[]⟩,.slice none 0 0],.bool false]) (by simp [results,Tryz.results33,go_sem,z0,z1]) rfl ?_
     exact fill_no HE.out ((HB1.out.setCell (by show w.heap.size ≤ w.heap.size + 1;omega) _).setCell (by show w.heap.size ≤ w.heap.size + 1;omega) _)
    | some x =>
     rw [hg] at hget hv
     have HF1 := ζ (HS.out _ hv)
     clear hg hv HS HNO
     have g1 : W1.cell? ⟨w.heap.size + 1 + 1,1,none⟩ = some (.slice aa ns.length ac) := HK21.out.cell 1
     go_wp2_with (at_builtin;refine wpList_append_one (B := w.heap.size + 3) (e := 9) (S := fun _ => False) (by rfl) _ _ 25 (by rfl) ζS rowStrs _ ns (by rfl) (HO1.out.alloc ζS _) (wr.heap.size + 1) 1 #[.string x] 9 (0,0) x (by rfl) (heap_new_at hs1) rfl (by simp [Value.oneCell']) rfl HNL.out (by simp;omega) ?_;intro v2 w2 hown2 hg2 hat2;obtain ⟨a2,c2,rfl,-,-,-⟩ := id (hown2.read ζS).form;rw [show (ns ++ [x]).length = ns.length + 1 by simp] at hown2;have HO2 := ζ hown2;have HB2 := ζ ((HB1.out.alloc (by have := HB1.out.size;omega) _).grown hg2 (by have := HB1.out.size;simp;omega) (fun q hq => by have := (HO1.out.row_lt hq).1;omega));have HK12 := ζ ((HK11.out.alloc _).grown hg2 (fun e => by have := (HO1.out.row_lt e.symm).1;omega));have HK22 := ζ ((HK21.out.alloc _).grown hg2 (fun e => by have := (HO1.out.row_lt e.symm).1;omega));have g2 : w2.cell? ⟨w.heap.size + 1 + 1,1,none⟩ = some (.slice aa ns.length ac) := HK22.out.cell 1;have x2 := HK22.out.frozen 1;clear hown2 hg2 hat2)
     go_roundw
     case rel => exact ⟨k + 1,_,_,by omega,by go_num,ζ (HB2.out.setCell (by show w.heap.size ≤ w.heap.size + 1 + 1;omega) _),HF1,ζ (HK12.out.far (p := ⟨w.heap.size + 1 + 1,1,none⟩) (by show w.heap.size + 1 ≠ w.heap.size + 1 + 1;omega) _),ζ (HK22.out.set_ 1 _),ζ (HO2.out.setCell ζS (p := ⟨w.heap.size + 1 + 1,1,none⟩) (fun h => h) (fun e => by have := (HO2.out.row_lt e).1;have h2 : w.heap.size + 3 ≤ w.heap.size + 1 + 1 := this;omega) _)⟩
     case measure => simp [intOf];omega
  ·have HA := ζ (show fillArgs l a.terms = some ns by have := HF.out;rwa [List.take_of_length_le (by omega)] at this)
   have z0 : wr.cell? ⟨w.heap.size + 1,0,none⟩ = some (.string ⟨#[]⟩) := HK1.out.cell 0
   have z1 : wr.cell? ⟨w.heap.size + 1,1,none⟩ = some (.slice none 0 0) := HK1.out.cell 1
   have x0 := HK1.out.frozen 0
   have x1 := HK1.out.frozen 1
   have y0 : wr.cell? ⟨w.heap.size + 1 + 1,0,none⟩ = some (.string a.name) := HK2.out.cell 0
   have y1 : wr.cell? ⟨w.heap.size + 1 + 1,1,none⟩ = some (.slice aa ns.length ac) := HK2.out.cell 1
   go_wp2
   refine bodyPost_ret (v := .tuple #[.agg #[.string a.name,.slice aa ns.length ac],.bool true]) (by simp [results,Tryz.results33,go_sem,z0,z1]) rfl ?_
   refine fill_yes HA.out ((HB.out.setCell (by show w.heap.size ≤ w.heap.size + 1;omega) _).setCell (by show w.heap.size ≤ w.heap.size + 1;omega) _) ?_
   have hno : ∀ i : Nat,(Value.slice aa ns.length ac).ownBlock ≠ some (⟨w.heap.size + 1,i,none⟩ : Addr).block := fun i e => by have := (HO.out.row_lt e).1;have h2 : w.heap.size + 3 ≤ w.heap.size + 1 := this;omega
   exact (((HO.out.setCell ζS (fun h => h) (hno 0) _).setCell ζS (fun h => h) (hno 1) _).read ζS).more ζS (fun b hb _ => hb.elim False.elim (fun h => by show w.heap.size ≤ b;omega))
end
section
open Go.RowKit Go.Maps
def REnv (N : Nat) : Reader Binds := fun S w cs l => ∃ b,cs = [.map (some b)] ∧ S b ∧ MapE w b N fun v => getB v l
theorem REnv.steady (N : Nat) : Steady (REnv N) :=
 ⟨fun h ⟨b,h1,h2,h3⟩ => ⟨b,h1,h2,h3.moved (h.2 b h2 h3.lt)⟩,fun h ⟨b,h1,h2,h3⟩ => ⟨b,h1,h b h2 h3.lt,h3⟩⟩
theorem RdSlice.mapR {α : Type} {k : Nat} {R R' : Reader α} (hR : ∀ {S w cs x},R S w cs x → R' S w cs x) {S : Nat → Prop} {w : World} {v : Value} {l : List α} (r : RdSlice k R S w v l) : RdSlice k R' S w v l := by
 obtain ⟨a,cap,hv,h1,h2,h0,h3⟩ := r
 refine ⟨a,cap,hv,h1,h2,h0,fun i x hx => ?_⟩
 obtain ⟨b,off,cs,ha,hS,hb,hk,hc,hr⟩ := h3 i x hx
 exact ⟨b,off,cs,ha,hS,hb,hk,hc,hR hr⟩
abbrev RdEnvs (N : Nat) := RdSlice 1 (REnv N)
theorem RdEnvs.mono {N M : Nat} (h : N ≤ M) {S : Nat → Prop} {w : World} {v : Value} {l : List Binds} (r : RdEnvs N S w v l) : RdEnvs M S w v l :=
 RdSlice.mapR (fun ⟨b,h1,h2,h3⟩ => ⟨b,h1,h2,h3.mono h⟩) r
theorem RdEnvs.at {N : Nat} {S : Nat → Prop} {w : World} {a : Option Addr} {n cap : Nat} {l : List Binds} (h : RdEnvs N S w (.slice a n cap) l) {i : Nat} {x : Binds} (hx : l[i]? = some x) :
 ∃ b off m,a = some ⟨b,off,none⟩ ∧ S b ∧ b < w.heap.size ∧ w.cell? ⟨b,off + i,none⟩ = some (.map (some m)) ∧ S m ∧ MapE w m N fun v => getB v x := by
 obtain ⟨a',cap',hv,h1,h2,h0,h3⟩ := h
 obtain ⟨b,off,cs,ha,hS,hb,hk,hc,⟨m,rfl,hm1,hm2⟩⟩ := h3 i x hx
 injection hv with e1 e2 e3
 subst e1
 refine ⟨b,off,m,ha,hS,hb,?_,hm1,hm2⟩
 have := hc 0 _ rfl
 simpa using this
theorem rowEnvs : RowT Tryz.prog 129 88 1 := RowT.mk' (b := 8) (z := .map none) Tryz.underlying129 (by kernel_rfl) (by omega) rfl (by omega)
def goodP (pick : Nat → List PFact) : Nat → List PAtom → Binds → Bool
 | _,[],_ => true
 | i,a :: b,l => !(a.neg && hitP a (pick i) l) && goodP pick (i + 1) b l
theorem notP_filter (pick : Nat → List PFact) : ∀ (b : List PAtom) (i : Nat) (ls : List Binds),notP pick i ls b = ls.filter (goodP pick i b)
 | [],i,ls => by
  rw [notP]
  exact (List.filter_eq_self.2 fun _ _ => rfl).symm
 | a :: b,i,ls => by
  rw [notP,notP_filter pick b (i + 1)]
  cases hn : a.neg
  ·rw [if_neg (by simp)]
   congr 1
   funext l
   rw [goodP,hn];simp
  ·rw [if_pos rfl,List.filter_filter]
   congr 1
   funext l
   rw [goodP,hn,Bool.and_comm];simp
theorem goodP_snoc (pick : Nat → List PFact) (a : PAtom) (l : Binds) : ∀ (b : List PAtom) (i : Nat),goodP pick i (b ++ [a]) l = (goodP pick i b l && !(a.neg && hitP a (pick (i + b.length)) l))
 | [],i => by simp [goodP]
 | c :: b,i => by
  rw [List.cons_append,goodP,goodP,goodP_snoc pick a l b (i + 1),List.length_cons,show i + 1 + b.length = i + (b.length + 1) by omega,Bool.and_assoc]
theorem go_fill {pick : Nat → List PFact} {body : List PAtom} {ls : List Binds} (hb : bodyBad body = 0) (hg : goP pick 0 [[]] body = some ls) : ∀ l ∈ ls,∀ a ∈ body,∃ f,fillP a l = some f := fun l hl a ha => by
 obtain ⟨l0,h0,g1,-,g3,g4⟩ := goP_sound body 0 _ _ hg (fun l hl => by obtain rfl := List.mem_singleton.1 hl;exact List.Pairwise.nil) l hl
 obtain ⟨ns,hns⟩ := fillArgs_some (l := l) (ts := a.terms) fun t ht hv => by
  rw [g3]
  refine .inr ?_
  obtain ⟨c,hc,hcn,hcv⟩ := (mem_heldOf t.name body).1 (body_free hb ha ((mem_varsOf t.name a).2 ⟨t,ht,hv,rfl⟩))
  exact ⟨c,hc,hcn,hcv⟩
 exact ⟨⟨a.name,ns⟩,by unfold fillP;rw [hns];rfl⟩
theorem pickRef (i at' : Int) (A L F : Nat) (ov fv : Value) (w : World) (h1 : Blk w A 3 #[.int .i64 at']) (h2 : Blk w L 24 #[ov]) (h3 : Blk w F 24 #[fv]) :
 Calls Tryz.prog 95 #[.int .i64 i,.pointer (some ⟨A,0,none⟩),.pointer (some ⟨L,0,none⟩),.pointer (some ⟨F,0,none⟩)] w fun e w' => e = .returned (if i = at' then ov else fv) ∧ w = w' := by
 have c1 : w.cell? ⟨A,0,none⟩ = some (.int .i64 at') := h1.cell 0
 have c2 : w.cell? ⟨L,0,none⟩ = some ov := h2.cell 0
 have c3 : w.cell? ⟨F,0,none⟩ = some fv := h3.cell 0
 clear h1 h2 h3
 obtain ⟨rv,hrv⟩ : ∃ rv,(if i = at' then ov else fv) = rv := ⟨_,rfl⟩
 rw [hrv]
 by_cases hi : i = at'
 ·rw [if_pos hi] at hrv
  subst hrv
  have g : (i == at') = true := beq_iff_eq.2 hi
  clear hi
  go_enter Tryz.func95,Tryz.ntmps95
  go_wp2
  go_ret
  exact ⟨rfl,rfl⟩
 ·rw [if_neg hi] at hrv
  subst hrv
  have g : (i == at') = false := beq_eq_false_iff_ne.2 hi
  clear hi
  go_enter Tryz.func95,Tryz.ntmps95
  go_wp2
  go_ret
  exact ⟨rfl,rfl⟩
end
end Go.Proofs.YtdngkcieckejoaaGreat
