/-
  THE TEXTS Base, Named, Names2, Cmp, Own, one behind the other.
-/
import Derived.Test.YtdngkcieckejoaaGreatPk1
import Derived.Test.YtdngkcieckejoaaGreatProg
import Derived.WalkKit
import Derived.WalkLawsBesides
import Derived.WalkSpells
import Derived.Outline
import Derived.Lib.Hide
import Derived.Deep.RegionHeld3
import Derived.Deep.AppendLies
import Derived.Deep.DrawnRows
import Derived.Deep.LoopGhost
import Derived.Laws.Pointers
import Derived.Sort.Grow
import Derived.Maps.AppendAt
import Derived.Laws.AppendOwnNone
import Derived.Deep.RegionLaw
namespace Go.Proofs.YtdngkcieckejoaaGreat
section
open Go.RowKit
abbrev Reader (α : Type) := (Nat → Prop) → World → List Value → α → Prop
def RdSlice {α : Type} (k : Nat) (R : Reader α) (S : Nat → Prop) (w : World) (v : Value) (l : List α) : Prop :=
 ∃ a cap,v = .slice a l.length cap ∧ l.length ≤ cap ∧ cap ≤ maxLen ∧ (a = none → cap = 0) ∧
  ∀ i x,l[i]? = some x → ∃ b off cs,a = some ⟨b,off,none⟩ ∧ S b ∧ b < w.heap.size ∧ cs.length = k ∧
   (∀ j u,cs[j]? = some u → w.cell? ⟨b,off + i * k + j,none⟩ = some u) ∧ R S w cs x
def Agree (S : Nat → Prop) (w w' : World) : Prop := w.heap.size ≤ w'.heap.size ∧ ∀ b,S b → b < w.heap.size → w'.heap[b]? = w.heap[b]?
structure Steady {α : Type} (R : Reader α) : Prop where
 agree : ∀ {S w w' cs x},Agree S w w' → R S w cs x → R S w' cs x
 more : ∀ {S S' : Nat → Prop} {w cs x},(∀ b,S b → b < w.heap.size → S' b) → R S w cs x → R S' w cs x
theorem Agree.cell {S : Nat → Prop} {w w' : World} (h : Agree S w w') {b : Nat} (hS : S b) (hb : b < w.heap.size) (off : Nat) : w'.cell? ⟨b,off,none⟩ = w.cell? ⟨b,off,none⟩ :=
 World.cell?_of_block (h.2 b hS hb)
theorem RdSlice.agree {α : Type} {k : Nat} {R : Reader α} (hR : Steady R) {S : Nat → Prop} {w w' : World} {v : Value} {l : List α} (h : Agree S w w') (r : RdSlice k R S w v l) : RdSlice k R S w' v l := by
 obtain ⟨a,cap,hv,h1,h2,h0,h3⟩ := r
 refine ⟨a,cap,hv,h1,h2,h0,fun i x hx => ?_⟩
 obtain ⟨b,off,cs,ha,hS,hb,hk,hc,hr⟩ := h3 i x hx
 exact ⟨b,off,cs,ha,hS,Nat.lt_of_lt_of_le hb h.1,hk,fun j u hu => (h.cell hS hb _).trans (hc j u hu),hR.agree h hr⟩
theorem RdSlice.more {α : Type} {k : Nat} {R : Reader α} (hR : Steady R) {S S' : Nat → Prop} {w : World} {v : Value} {l : List α} (h : ∀ b,S b → b < w.heap.size → S' b) (r : RdSlice k R S w v l) : RdSlice k R S' w v l := by
 obtain ⟨a,cap,hv,h1,h2,h0,h3⟩ := r
 refine ⟨a,cap,hv,h1,h2,h0,fun i x hx => ?_⟩
 obtain ⟨b,off,cs,ha,hS,hb,hk,hc,hr⟩ := h3 i x hx
 exact ⟨b,off,cs,ha,h b hS hb,hb,hk,hc,hR.more h hr⟩
def RStr : Reader Str := fun _ _ cs s => cs = [.string s]
theorem RStr.steady : Steady RStr := ⟨fun _ h => h,fun _ h => h⟩
abbrev RdStrs := RdSlice 1 RStr
def RInt : Reader Int := fun _ _ cs n => cs = [.int .i64 n]
theorem RInt.steady : Steady RInt := ⟨fun _ h => h,fun _ h => h⟩
abbrev RdInts := RdSlice 1 RInt
def RFact : Reader PFact := fun S w cs f => ∃ av,cs = [.string f.name,av] ∧ RdStrs S w av f.args
theorem RFact.steady : Steady RFact :=
 ⟨fun h ⟨av,hc,r⟩ => ⟨av,hc,r.agree RStr.steady h⟩,fun h ⟨av,hc,r⟩ => ⟨av,hc,r.more RStr.steady h⟩⟩
abbrev RdFacts := RdSlice 2 RFact
def RTerm : Reader PTerm := fun _ _ cs t => cs = [.bool t.var,.string t.name]
theorem RTerm.steady : Steady RTerm := ⟨fun _ h => h,fun _ h => h⟩
abbrev RdTerms := RdSlice 2 RTerm
def RAtom : Reader PAtom := fun S w cs a => ∃ tv,cs = [.bool a.neg,.string a.name,tv] ∧ RdTerms S w tv a.terms
theorem RAtom.steady : Steady RAtom :=
 ⟨fun h ⟨av,hc,r⟩ => ⟨av,hc,r.agree RTerm.steady h⟩,fun h ⟨av,hc,r⟩ => ⟨av,hc,r.more RTerm.steady h⟩⟩
abbrev RdAtoms := RdSlice 3 RAtom
def RRule : Reader PRule := fun S w cs r => ∃ tv bv,cs = [.bool r.head.neg,.string r.head.name,tv,bv] ∧ RdTerms S w tv r.head.terms ∧ RdAtoms S w bv r.body
theorem RRule.steady : Steady RRule :=
 ⟨fun h ⟨tv,bv,hc,r,q⟩ => ⟨tv,bv,hc,r.agree RTerm.steady h,q.agree RAtom.steady h⟩,fun h ⟨tv,bv,hc,r,q⟩ => ⟨tv,bv,hc,r.more RTerm.steady h,q.more RAtom.steady h⟩⟩
abbrev RdRules := RdSlice 4 RRule
def RBind : Reader PBind := fun _ _ cs b => cs = [.string b.var,.string b.name]
theorem RBind.steady : Steady RBind := ⟨fun _ h => h,fun _ h => h⟩
abbrev RdBinds := RdSlice 2 RBind
def RBinds : Reader (List PBind) := fun S w cs l => ∃ v,cs = [v] ∧ RdBinds S w v l
theorem RBinds.steady : Steady RBinds :=
 ⟨fun h ⟨av,hc,r⟩ => ⟨av,hc,r.agree RBind.steady h⟩,fun h ⟨av,hc,r⟩ => ⟨av,hc,r.more RBind.steady h⟩⟩
abbrev RdBindss := RdSlice 1 RBinds
theorem RdStrs.at {S : Nat → Prop} {w : World} {a : Option Addr} {n cap : Nat} {l : List Str} (h : RdStrs S w (.slice a n cap) l) {i : Nat} {x : Str} (hx : l[i]? = some x) :
 ∃ b off,a = some ⟨b,off,none⟩ ∧ S b ∧ b < w.heap.size ∧ w.cell? ⟨b,off + i,none⟩ = some (.string x) := by
 obtain ⟨a',cap',hv,_,_,_,h3⟩ := h
 obtain ⟨b,off,cs,ha,hS,hb,hk,hc,hr⟩ := h3 i x hx
 injection hv with e1 e2 e3
 subst e1
 have hr' : cs = [.string x] := hr
 subst hr'
 refine ⟨b,off,ha,hS,hb,?_⟩
 have := hc 0 (.string x) rfl
 simpa using this
theorem RdInts.at {S : Nat → Prop} {w : World} {a : Option Addr} {n cap : Nat} {l : List Int} (h : RdInts S w (.slice a n cap) l) {i : Nat} {x : Int} (hx : l[i]? = some x) :
 ∃ b off,a = some ⟨b,off,none⟩ ∧ S b ∧ b < w.heap.size ∧ w.cell? ⟨b,off + i,none⟩ = some (.int .i64 x) := by
 obtain ⟨a',cap',hv,_,_,_,h3⟩ := h
 obtain ⟨b,off,cs,ha,hS,hb,hk,hc,hr⟩ := h3 i x hx
 injection hv with e1 e2 e3
 subst e1
 have hr' : cs = [.int .i64 x] := hr
 subst hr'
 refine ⟨b,off,ha,hS,hb,?_⟩
 have := hc 0 (.int .i64 x) rfl
 simpa using this
theorem RdFacts.at {S : Nat → Prop} {w : World} {a : Option Addr} {n cap : Nat} {l : List PFact} (h : RdFacts S w (.slice a n cap) l) {i : Nat} {x : PFact} (hx : l[i]? = some x) :
 ∃ b off av,a = some ⟨b,off,none⟩ ∧ S b ∧ b < w.heap.size ∧ w.cell? ⟨b,off + i * 2,none⟩ = some (.string x.name) ∧ w.cell? ⟨b,off + i * 2 + 1,none⟩ = some av ∧ RdStrs S w av x.args := by
 obtain ⟨a',cap',hv,_,_,_,h3⟩ := h
 obtain ⟨b,off,cs,ha,hS,hb,hk,hc,av,hr,hq⟩ := h3 i x hx
 injection hv with e1 e2 e3
 subst e1
 subst hr
 refine ⟨b,off,av,ha,hS,hb,?_,?_,hq⟩
 ·simpa using hc 0 _ rfl
 ·simpa using hc 1 _ rfl
theorem RdSlice.form {α : Type} {k : Nat} {R : Reader α} {S : Nat → Prop} {w : World} {v : Value} {l : List α} (h : RdSlice k R S w v l) : ∃ a cap,v = .slice a l.length cap ∧ l.length ≤ cap ∧ cap ≤ maxLen ∧ (a = none → cap = 0) :=
 let ⟨a,cap,hv,h1,h2,h0,_⟩ := h;⟨a,cap,hv,h1,h2,h0⟩
theorem RdInts.block {S : Nat → Prop} {w : World} {b : Nat} {t : TypeId} {fr : Nat × Nat} {l : List Int} {n : Nat} (hl : l.length = n) (h : w.heap[b]? = some (.cells (l.map (Value.int .i64)).toArray t fr)) (hS : S b) (hm : n ≤ maxLen) :
 RdInts S w (.slice (some ⟨b,0,none⟩) n n) l := by
 subst hl
 refine ⟨_,_,rfl,Nat.le_refl _,hm,(fun h => by cases h),fun i x hx => ⟨b,0,[.int .i64 x],rfl,hS,(Array.getElem?_eq_some_iff.1 h).1,rfl,?_,rfl⟩⟩
 intro j u hu
 match j,hu with
 | 0,hu =>
  have hu' : Value.int .i64 x = u := by simpa using hu
  subst hu'
  simp [World.cell?,h,hx]
theorem ret_int {k : IntKind} {a b : Int} (h : a = b) : Ending.returned (.int k a) = .returned (.int k b) := by rw [h]
theorem ret_bool {a b : Bool} (h : a = b) : Ending.returned (.bool a) = .returned (.bool b) := by rw [h]
theorem heap_new_at {w : World} {o : Obj} {n : Nat} (h : w.heap.size = n) : (w.alloc o).heap[n]? = some o := by subst h;exact heap_alloc_new w o
def Fresh (w w' : World) : Prop := ∃ q os,w' = Sort.grow (w.drewN q) os
theorem Fresh.refl (w : World) : Fresh w w := ⟨0,#[],by simp [Sort.grow,World.drewN]⟩
theorem Fresh.alloc {w w' : World} (h : Fresh w w') (o : Obj) : Fresh w (w'.alloc o) := by
 obtain ⟨q,os,rfl⟩ := h
 exact ⟨q,os ++ #[o],by rw [Sort.alloc_eq_grow,Sort.grow_grow]⟩
theorem Fresh.drew {w w' : World} (h : Fresh w w') : Fresh w w'.drew := by
 obtain ⟨q,os,rfl⟩ := h
 exact ⟨q + 1,os,rfl⟩
theorem Fresh.trans {a b c : World} (h : Fresh a b) (k : Fresh b c) : Fresh a c := by
 obtain ⟨q,os,rfl⟩ := h
 obtain ⟨q',os',rfl⟩ := k
 exact ⟨q + q',os ++ os',by simp [Sort.grow,World.drewN,Nat.add_assoc]⟩
theorem Fresh.below {w w' : World} (h : Fresh w w') : Below w.heap.size w w' := by
 obtain ⟨q,os,rfl⟩ := h
 exact ⟨rfl,rfl,rfl,by simp [Sort.grow,World.drewN],fun k hk => by simp [Sort.grow,World.drewN,Array.getElem?_append,hk]⟩
theorem Below.agree' {B : Nat} {w w' : World} (h : Below B w w') : Agree (fun b => b < B) w w' := ⟨h.size,fun b hb _ => h.block b hb⟩
theorem Below.agree {S : Nat → Prop} {w w' : World} (h : Below w.heap.size w w') : Agree S w w' := ⟨h.size,fun b _ hb => h.block b hb⟩
theorem Agree.alloc {S : Nat → Prop} {w w' : World} (h : Agree S w w') (o : Obj) : Agree S w (w'.alloc o) :=
 ⟨Nat.le_trans h.1 (by simp),fun b hb hlt => (Below.heap_alloc _ _ _ (Nat.lt_of_lt_of_le hlt h.1)).trans (h.2 b hb hlt)⟩
theorem Agree.refl (S : Nat → Prop) (w : World) : Agree S w w := ⟨Nat.le_refl _,fun _ _ _ => rfl⟩
theorem Agree.trans {S : Nat → Prop} {a b c : World} (h : Agree S a b) (k : Agree S b c) : Agree S a c :=
 ⟨Nat.le_trans h.1 k.1,fun i hi hlt => (k.2 i hi (Nat.lt_of_lt_of_le hlt h.1)).trans (h.2 i hi hlt)⟩
theorem cell_below {B : Nat} {w w' : World} (h : Below B w w') {c : Nat} (hc : c < B) (off : Nat) : w'.cell? ⟨c,off,none⟩ = w.cell? ⟨c,off,none⟩ := h.cell (p := ⟨c,off,none⟩) hc
theorem ζ {p : Prop} (h : p) : Hid p := Lib.hid h
theorem ζc {α : Type} : (∀ (l : List α) (i : Nat),l.toArray[i]? = l[i]?) ∧ (∀ (a : α) (l : List α),(a :: l)[0]? = some a) ∧ (∀ (a : α) (l : List α) (i : Nat),(a :: l)[i + 1]? = l[i]?) := ⟨fun _ _ => List.getElem?_toArray,fun _ _ => List.getElem?_cons_zero,fun _ _ _ => List.getElem?_cons_succ⟩
theorem ζp : (∀ (a : Act) (d : Tmp) (v : Value),a.put (some d) v = { a with tmps := a.tmps.setIfInBounds d v }) ∧ (∀ (a : Act) (v : Value),a.put none v = a) ∧ (∀ (l : List Value) (i : Nat) (v : Value),l.toArray.setIfInBounds i v = (l.set i v).toArray) ∧ (∀ (a : Value) (l : List Value) (v : Value),(a :: l).set 0 v = v :: l) ∧ (∀ (a : Value) (l : List Value) (i : Nat) (v : Value),(a :: l).set (i + 1) v = a :: l.set i v) := ⟨fun _ _ _ => rfl,fun _ _ => rfl,fun _ _ _ => List.setIfInBounds_toArray ..,fun _ _ _ => rfl,fun _ _ _ _ => rfl⟩
theorem ζe {α : Type _} {l : List α} {i : Nat} (h : i < l.length) : l[i]? = some l[i] := List.getElem?_eq_getElem h
theorem ζm {α : Type _} {l : List α} {i : Nat} {a : α} (h : l[i]? = some a) : a ∈ l := List.mem_of_getElem? h
theorem ζb (B : Nat) (w : World) : Below B w w := Below.refl B w
theorem ζl {B : Nat} {w w' : World} (h : Below B w w') {c : Nat} (hc : c < B) (off : Nat) : w'.cell? ⟨c,off,none⟩ = w.cell? ⟨c,off,none⟩ := cell_below h hc off
theorem ζn (n : Nat) : n ≤ n := Nat.le_refl n
theorem ζF : Steady RFact := RFact.steady
theorem ζS : Steady RStr := RStr.steady
theorem ζt {P : Program} {md : Region.Mode} {ops : Array Oper} {Q : Exit → Act → World → Prop} {S : World → Prop} {i : Nat} {oi : Oper} {v : Value} {fuel : Nat} {listed : Array Bool} {a : Act} {w : World} (hi : ops[i]? = some oi) (hy : YieldsIf P ops S oi v a) (hS : S w) (h : wpAnyH P md ops Q S fuel (listed.setIfInBounds i true) (a.put oi.dst v) w) (hs : Region.noSelect ops = true := by kernel_rfl) (hf : Region.free md ops listed i = true := by kernel_rfl) (hr : (Region.ready md ops listed).contains i = true := by kernel_rfl) (hQ : ∀ c a w,Q (.panic c) (a.put oi.dst v) w → Q (.panic c) a w := by exact fun _ _ _ h => h) : wpAnyH P md ops Q S (fuel + 1) listed a w := wpAnyH_take hi hs hf hr hQ hy hS h
end
section
open Go.RowKit
set_option maxHeartbeats 0 in
theorem namedCalls (s : Str) (w : World) : Calls Tryz.prog 35 #[.string s] w fun e w' => e = .returned (.bool (named s)) ∧ w = w' := by
 by_cases h0 : s.size < 1
 ·rw [named_empty s h0]
  go_enter Tryz.func35,Tryz.ntmps35
  go_wp2
  go_ret
  exact ⟨rfl,rfl⟩
 ·by_cases h12 : 12 < s.size
  ·rw [named_long s h12]
   have hb : ¬ ((s.size : Int) < 1) := by omega
   go_enter Tryz.func35,Tryz.ntmps35
   go_wp2
   go_ret
   exact ⟨rfl,rfl⟩
  ·rw [named_ok s (by omega) (by omega)]
   have hb : ¬ ((s.size : Int) < 1) := by omega
   have hb2 : ¬ ((12 : Int) < s.size) := by omega
   go_enter Tryz.func35,Tryz.ntmps35
   go_wp2
   go_loop [16,3,4,5] (fun i _ _ _ => ∃ k : Nat,k ≤ s.size ∧ i = .int .i64 k ∧ okFrom 0 s.data.toList = okFrom k (s.data.toList.drop k)) (fun i _ _ _ => s.size - (intOf i).toNat)
   case atStart => exact ⟨0,Nat.zero_le _,rfl,rfl⟩
   case round =>
    obtain ⟨k,hk,rfl,hr⟩ := hrel
    have HR := ζ hr
    clear hr
    by_cases hlt : k < s.size
    ·by_cases hk0 : k = 0
     ·subst hk0
      rcases byte_cases s[0] with ⟨⟨b1,b2⟩,q1,q2,q3⟩ | ⟨⟨b1,b2⟩,q1,q2,q3⟩ | ⟨⟨b1,b2⟩,q1,q2,q3⟩ | ⟨⟨b1,b2⟩,q1,q2,q3⟩ | ⟨⟨b1,b2⟩,q1,q2,q3⟩ | ⟨⟨b1,b2⟩,q1,q2,q3⟩ | ⟨⟨b1,b2⟩,q1,q2,q3⟩ | ⟨⟨b1,b2⟩,q1,q2,q3⟩ | ⟨⟨b1,b2⟩,q1,q2,q3⟩
      case' inl | inr.inl =>
       have Q := ζ (okFrom_here hlt HR.out (.inl q1))
       clear q1 q2 q3
       go_wp2
       go_round
       case rel => exact ⟨1,by omega,by go_num,Q.out⟩
       case measure => simp [intOf];omega
      all_goals
       have Q := ζ (okFrom_bad hlt HR.out q1 (.inl rfl))
       clear q1 q2 q3
       try have z1 : decide ((s[0].toNat : Int) ≤ 57) = false := decide_eq_false (by omega)
       try have z2 : decide ((s[0].toNat : Int) ≤ 122) = false := decide_eq_false (by omega)
       try have z3 : ((s[0].toNat : Int) != 95) = true := bne_iff_ne.2 (by omega)
       try have z4 : ((s[0].toNat : Int) != 95) = false := bne_eq_false_iff_eq.2 (by omega)
       go_wp2
       go_ret
       exact ⟨ret_bool Q.out.symm,rfl⟩
     ·have hkb : ((k : Int) == 0) = false := by simpa using hk0
      rcases byte_cases s[k] with ⟨⟨b1,b2⟩,q1,q2,q3⟩ | ⟨⟨b1,b2⟩,q1,q2,q3⟩ | ⟨⟨b1,b2⟩,q1,q2,q3⟩ | ⟨⟨b1,b2⟩,q1,q2,q3⟩ | ⟨⟨b1,b2⟩,q1,q2,q3⟩ | ⟨⟨b1,b2⟩,q1,q2,q3⟩ | ⟨⟨b1,b2⟩,q1,q2,q3⟩ | ⟨⟨b1,b2⟩,q1,q2,q3⟩ | ⟨⟨b1,b2⟩,q1,q2,q3⟩
      case' inl | inr.inl | inr.inr.inl | inr.inr.inr.inl =>
       have Q := ζ (okFrom_here hlt HR.out (.inr ⟨hk0,q3⟩))
       clear q1 q2 q3 hk0
       try have z1 : decide ((s[k].toNat : Int) ≤ 57) = false := decide_eq_false (by omega)
       try have z2 : decide ((s[k].toNat : Int) ≤ 122) = false := decide_eq_false (by omega)
       try have z3 : ((s[k].toNat : Int) != 95) = true := bne_iff_ne.2 (by omega)
       try have z4 : ((s[k].toNat : Int) != 95) = false := bne_eq_false_iff_eq.2 (by omega)
       go_wp2
       go_round
       case rel => exact ⟨k + 1,by omega,by go_num,Q.out⟩
       case measure => simp [intOf];omega
      all_goals
       have Q := ζ (okFrom_bad hlt HR.out q1 (.inr q3))
       clear q1 q2 q3 hk0
       try have z1 : decide ((s[k].toNat : Int) ≤ 57) = false := decide_eq_false (by omega)
       try have z2 : decide ((s[k].toNat : Int) ≤ 122) = false := decide_eq_false (by omega)
       try have z3 : ((s[k].toNat : Int) != 95) = true := bne_iff_ne.2 (by omega)
       try have z4 : ((s[k].toNat : Int) != 95) = false := bne_eq_false_iff_eq.2 (by omega)
       go_wp2
       go_ret
       exact ⟨ret_bool Q.out.symm,rfl⟩
    ·go_wp2
     go_ret
     refine ⟨?_,rfl⟩
     rw [HR.out,drop_bytes_end s k (by omega)]
     rfl
end
section
open Go.RowKit
theorem drop_cons {α : Type} {x : α} {l : List α} {k : Nat} (h : l[k]? = some x) : l.drop k = x :: l.drop (k + 1) := by
 obtain ⟨hk,rfl⟩ := List.getElem?_eq_some_iff.1 h
 exact List.drop_eq_getElem_cons hk
theorem drop_end {α : Type} {l : List α} {k : Nat} (h : l.length ≤ k) : l.drop k = [] := List.drop_eq_nil_of_le h
theorem beq_toList (x y : Str) : (x.toList == y.toList) = decide (x = y) := by
 by_cases h : x = y
 ·subst h;simp
 ·rw [decide_eq_false h,beq_eq_false_iff_ne];exact fun e => h (toList_inj e)
def idxFrom (x : Str) : Nat → List Str → Int
 | _,[] => -1
 | k,y :: l => if x = y then k else idxFrom x (k + 1) l
theorem idxFrom_ge (x : Str) : ∀ l k,decide (0 ≤ idxFrom x k l) = memS x l
 | [],k => by simp [idxFrom,memS]
 | y :: l,k => by
  by_cases h : x = y
  ·simp [idxFrom,memS,h]
  ·simp only [idxFrom,if_neg h,memS,decide_eq_false h,Bool.false_or]
   exact idxFrom_ge x l (k + 1)
set_option maxHeartbeats 0 in
theorem indexStr {S : Nat → Prop} (v : Value) (l : List Str) (s : Str) (w : World) (h : RdStrs S w v l) (n1 : l.length ≤ 1125899906842624) :
 Calls Tryz.prog 98 #[v,.string s] w fun e w' => e = .returned (.int .i64 (idxFrom s 0 l)) ∧ w = w' := by
 obtain ⟨a,c,rfl,-,-,-⟩ := h.form
 have H := ζ h
 clear h
 go_enter Tryz.func98,Tryz.ntmps98
 go_wp2
 go_loop [8,5] (fun i _ => ∃ k : Nat,k ≤ l.length ∧ i = .int .i64 k ∧ idxFrom s 0 l = idxFrom s k (l.drop k)) (fun i _ => l.length - (intOf i).toNat)
 case atStart => exact ⟨0,Nat.zero_le _,rfl,rfl⟩
 case round =>
  obtain ⟨k,hk,rfl,hr⟩ := hrel
  have HR := ζ hr
  clear hr
  by_cases hlt : k < l.length
  ·obtain ⟨x,hx⟩ : ∃ x,l[k]? = some x := ⟨_,ζe hlt⟩
   obtain ⟨b,o,rfl,-,-,hc⟩ := H.out.at hx
   have HX := ζ hx
   clear hx
   by_cases hz : s = x
   ·have gz : (s.toList == x.toList) = true := by rw [hz];simp
    have HZ := ζ hz
    clear hz
    go_wp2
    go_ret
    refine ⟨ret_int ?_,rfl⟩
    rw [HR.out,drop_cons HX.out]
    simp [idxFrom,HZ.out]
   ·have gz : (s.toList == x.toList) = false := by rw [beq_toList];exact decide_eq_false hz
    have HZ := ζ hz
    clear hz
    go_wp2
    go_round
    case rel =>
     refine ⟨k + 1,by omega,by go_num,?_⟩
     rw [HR.out,drop_cons HX.out]
     simp [idxFrom,HZ.out]
    case measure => simp [intOf];omega
  ·go_wp2
   go_ret
   refine ⟨ret_int ?_,rfl⟩
   rw [HR.out,drop_end (by omega : l.length ≤ k)]
   rfl
theorem containsStr {S : Nat → Prop} (v : Value) (l : List Str) (s : Str) (w : World) (h : RdStrs S w v l) (n1 : l.length ≤ 1125899906842624) :
 Calls Tryz.prog 80 #[v,.string s] w fun e w' => e = .returned (.bool (memS s l)) ∧ w = w' := by
 have K := indexStr v l s w h n1
 have e := idxFrom_ge s l 0
 rw [← e]
 clear e
 generalize idxFrom s 0 l = r at *
 clear h
 go_enter Tryz.func80,Tryz.ntmps80
 go_wp2_with (go_at_call 98;refine K.mono ?_;rintro e w' ⟨rfl,rfl⟩)
 go_ret
 exact ⟨rfl,rfl⟩
theorem wrong1Calls (s : Str) (w : World) : Calls Tryz.prog 37 #[.string s] w fun e w' => e = .returned (.bool (!named s)) ∧ w = w' := by
 go_enter Tryz.func37,Tryz.ntmps37
 go_wp2_with (go_at_call 35;refine (namedCalls _ _).mono ?_;rintro e w' ⟨rfl,rfl⟩)
 go_ret
 exact ⟨rfl,rfl⟩
def badFrom : Nat → List Str → Int
 | _,[] => -1
 | k,y :: l => if named y then badFrom (k + 1) l else k
theorem badFrom_ge : ∀ l k,decide (0 ≤ badFrom k l) = !l.all named
 | [],k => by simp [badFrom]
 | y :: l,k => by
  cases h : named y
  ·simp [badFrom,h]
  ·simp only [badFrom,h,if_true,List.all_cons,Bool.true_and]
   exact badFrom_ge l (k + 1)
set_option maxHeartbeats 0 in
theorem indexFuncStr {S : Nat → Prop} (v : Value) (l : List Str) (w : World) (h : RdStrs S w v l) (n1 : l.length ≤ 1125899906842624) :
 Calls Tryz.prog 58 #[v,.func (.func 37) #[] #[]] w fun e w' => e = .returned (.int .i64 (badFrom 0 l)) ∧ w = w' := by
 obtain ⟨a,c,rfl,-,-,-⟩ := h.form
 have H := ζ h
 clear h
 go_enter Tryz.func58,Tryz.ntmps58
 go_wp2
 go_loop [8,5] (fun i _ => ∃ k : Nat,k ≤ l.length ∧ i = .int .i64 k ∧ badFrom 0 l = badFrom k (l.drop k)) (fun i _ => l.length - (intOf i).toNat)
 case atStart => exact ⟨0,Nat.zero_le _,rfl,rfl⟩
 case round =>
  obtain ⟨k,hk,rfl,hr⟩ := hrel
  have HR := ζ hr
  clear hr
  by_cases hlt : k < l.length
  ·obtain ⟨x,hx⟩ : ∃ x,l[k]? = some x := ⟨_,ζe hlt⟩
   obtain ⟨b,o,rfl,-,-,hc⟩ := H.out.at hx
   have HX := ζ hx
   clear hx
   cases hz : named x
   ·have HZ := ζ hz
    have K : Calls Tryz.prog 37 #[.string x] w fun e w' => e = .returned (.bool true) ∧ w = w' := by have := wrong1Calls x w;rwa [hz] at this
    clear hz
    go_wp2_with (go_at_call 37;refine K.mono ?_;rintro e w' ⟨rfl,rfl⟩)
    go_ret
    refine ⟨ret_int ?_,rfl⟩
    rw [HR.out,drop_cons HX.out]
    simp [badFrom,HZ.out]
   ·have HZ := ζ hz
    have K : Calls Tryz.prog 37 #[.string x] w fun e w' => e = .returned (.bool false) ∧ w = w' := by have := wrong1Calls x w;rwa [hz] at this
    clear hz
    go_wp2_with (go_at_call 37;refine K.mono ?_;rintro e w' ⟨rfl,rfl⟩)
    go_round
    case rel =>
     refine ⟨k + 1,by omega,by go_num,?_⟩
     rw [HR.out,drop_cons HX.out]
     simp [badFrom,HZ.out]
    case measure => simp [intOf];omega
  ·go_wp2
   go_ret
   refine ⟨ret_int ?_,rfl⟩
   rw [HR.out,drop_end (by omega : l.length ≤ k)]
   rfl
theorem containsFuncStr {S : Nat → Prop} (v : Value) (l : List Str) (w : World) (h : RdStrs S w v l) (n1 : l.length ≤ 1125899906842624) :
 Calls Tryz.prog 36 #[v,.func (.func 37) #[] #[]] w fun e w' => e = .returned (.bool (!l.all named)) ∧ w = w' := by
 have K := indexFuncStr v l w h n1
 have e := badFrom_ge l 0
 rw [← e]
 clear e
 generalize badFrom 0 l = r at *
 clear h
 go_enter Tryz.func36,Tryz.ntmps36
 go_wp2_with (go_at_call 58;refine K.mono ?_;rintro e w' ⟨rfl,rfl⟩)
 go_ret
 exact ⟨rfl,rfl⟩
def wrongF (f : PFact) : Int := if !named f.name then 7 else if 4 < f.args.length then 5 else if f.args.all named then 0 else 7
set_option maxHeartbeats 0 in
theorem wrongFact {S : Nat → Prop} (f : PFact) (av : Value) (w : World) (h : RdStrs S w av f.args) (n1 : f.args.length ≤ 1125899906842624) :
 Calls Tryz.prog 16 #[.agg #[.string f.name,av]] w fun e w' => e = .returned (.int .i64 (wrongF f)) ∧ Fresh w w' := by
 have K : ∀ w',Agree (fun _ => True) w w' → Calls Tryz.prog 36 #[av,.func (.func 37) #[] #[]] w' fun e w'' => e = .returned (.bool (!f.args.all named)) ∧ w' = w'' :=
  fun w' ha => containsFuncStr av f.args w' ((h.more ζS (fun _ _ _ => trivial)).agree ζS ha) n1
 obtain ⟨a,c,rfl,-,-,-⟩ := h.form
 have e : wrongF f = if !named f.name then 7 else if 4 < f.args.length then 5 else if f.args.all named then 0 else 7 := rfl
 rw [e]
 clear e h
 cases h1 : named f.name
 ·have K1 : ∀ w',Calls Tryz.prog 35 #[.string f.name] w' fun e w'' => e = .returned (.bool false) ∧ w' = w'' := fun w' => by have := namedCalls f.name w';rwa [h1] at this
  clear h1 K
  go_enter Tryz.func16,Tryz.ntmps16
  go_wp2_with (go_at_call 35;refine (K1 _).mono ?_;rintro e w' ⟨rfl,rfl⟩)
  go_ret
  exact ⟨rfl,(Fresh.refl _).alloc _⟩
 ·have K1 : ∀ w',Calls Tryz.prog 35 #[.string f.name] w' fun e w'' => e = .returned (.bool true) ∧ w' = w'' := fun w' => by have := namedCalls f.name w';rwa [h1] at this
  clear h1
  by_cases h4 : 4 < f.args.length
  ·rw [if_neg (by simp),if_pos h4]
   clear K
   go_enter Tryz.func16,Tryz.ntmps16
   go_wp2_with (go_at_call 35;refine (K1 _).mono ?_;rintro e w' ⟨rfl,rfl⟩)
   go_ret
   exact ⟨rfl,(Fresh.refl _).alloc _⟩
  ·rw [if_neg (by simp),if_neg h4]
   cases h5 : f.args.all named
   ·rw [h5] at K
    have HK := ζ K
    clear K h5
    go_enter Tryz.func16,Tryz.ntmps16
    go_wp2_with (first | (go_at_call 35;refine (K1 _).mono ?_;rintro e w' ⟨rfl,rfl⟩) | (go_at_call 36;refine (HK.out _ ((Agree.refl _ _).alloc _)).mono ?_;rintro e w' ⟨rfl,rfl⟩))
    go_ret
    exact ⟨rfl,(Fresh.refl _).alloc _⟩
   ·rw [h5] at K
    have HK := ζ K
    clear K h5
    go_enter Tryz.func16,Tryz.ntmps16
    go_wp2_with (first | (go_at_call 35;refine (K1 _).mono ?_;rintro e w' ⟨rfl,rfl⟩) | (go_at_call 36;refine (HK.out _ ((Agree.refl _ _).alloc _)).mono ?_;rintro e w' ⟨rfl,rfl⟩))
    go_ret
    exact ⟨rfl,(Fresh.refl _).alloc _⟩
end
section
open Go.RowKit
theorem isNaNStr (x : Str) (w : World) : Calls Tryz.prog 81 #[.string x] w fun e w' => e = .returned (.bool false) ∧ w = w' := by
 go_enter Tryz.func81,Tryz.ntmps81
 go_wp2
 go_ret
 exact ⟨by simp,rfl⟩
theorem isNaNInt (x : Int) (w : World) : Calls Tryz.prog 82 #[.int .i64 x] w fun e w' => e = .returned (.bool false) ∧ w = w' := by
 go_enter Tryz.func82,Tryz.ntmps82
 go_wp2
 go_ret
 exact ⟨by simp,rfl⟩
set_option maxHeartbeats 0 in
theorem compareStr (x y : Str) (w : World) : Calls Tryz.prog 60 #[.string x,.string y] w fun e w' => e = .returned (.int .i64 (cmpStr x y)) ∧ w = w' := by
 by_cases h1 : strLt x y = true
 ·have g1 : Op.bytesLess x.toList y.toList = true := h1
  have e : cmpStr x y = -1 := by simp [cmpStr,h1]
  rw [e]
  clear e h1
  go_enter Tryz.func60,Tryz.ntmps60
  go_wp2_with (go_at_call 81;refine (isNaNStr _ _).mono ?_;rintro e w' ⟨rfl,rfl⟩)
  go_ret
  exact ⟨rfl,rfl⟩
 ·have g1 : Op.bytesLess x.toList y.toList = false := by simpa [strLt] using h1
  by_cases h2 : strLt y x = true
  ·have g2 : (x.toList == y.toList) = false := by
    rw [beq_eq_false_iff_ne]
    intro he
    have := toList_inj he
    subst this
    rw [strLt_irrefl] at h2
    cases h2
   have e : cmpStr x y = 1 := by simp [cmpStr,h1,h2]
   rw [e]
   clear e h1 h2
   go_enter Tryz.func60,Tryz.ntmps60
   go_wp2_with (go_at_call 81;refine (isNaNStr _ _).mono ?_;rintro e w' ⟨rfl,rfl⟩)
   go_ret
   exact ⟨rfl,rfl⟩
  ·have he : x = y := strLt_tri (by simpa using h1) (by simpa using h2)
   have g2 : (x.toList == y.toList) = true := by rw [he];exact beq_self_eq_true _
   have e : cmpStr x y = 0 := by simp [cmpStr,h1,h2]
   rw [e]
   clear e h1 h2 he
   go_enter Tryz.func60,Tryz.ntmps60
   go_wp2_with (go_at_call 81;refine (isNaNStr _ _).mono ?_;rintro e w' ⟨rfl,rfl⟩)
   go_ret
   exact ⟨rfl,rfl⟩
set_option maxHeartbeats 0 in
theorem compareInt (x y : Int) (w : World) : Calls Tryz.prog 61 #[.int .i64 x,.int .i64 y] w fun e w' => e = .returned (.int .i64 (cmpInt x y)) ∧ w = w' := by
 unfold cmpInt
 by_cases h1 : x < y
 ·rw [if_pos h1]
  go_enter Tryz.func61,Tryz.ntmps61
  go_wp2_with (go_at_call 82;refine (isNaNInt _ _).mono ?_;rintro e w' ⟨rfl,rfl⟩)
  go_ret
  exact ⟨rfl,rfl⟩
 ·rw [if_neg h1]
  by_cases h2 : y < x
  ·rw [if_pos h2]
   go_enter Tryz.func61,Tryz.ntmps61
   go_wp2_with (go_at_call 82;refine (isNaNInt _ _).mono ?_;rintro e w' ⟨rfl,rfl⟩)
   go_ret
   exact ⟨rfl,rfl⟩
  ·rw [if_neg h2]
   go_enter Tryz.func61,Tryz.ntmps61
   go_wp2_with (go_at_call 82;refine (isNaNInt _ _).mono ?_;rintro e w' ⟨rfl,rfl⟩)
   go_ret
   exact ⟨rfl,rfl⟩
theorem cmpStrs_drop_cons {x : Str} {l : List Str} {k : Nat} (h : l[k]? = some x) : l.drop k = x :: l.drop (k + 1) := by
 obtain ⟨hk,rfl⟩ := List.getElem?_eq_some_iff.1 h
 exact List.drop_eq_getElem_cons hk
set_option maxHeartbeats 0 in
theorem slicesCompare {S T : Nat → Prop} (v1 v2 : Value) (l1 l2 : List Str) (w : World) (h1 : RdStrs S w v1 l1) (h2 : RdStrs T w v2 l2) (n1 : l1.length ≤ 1073741824) :
 Calls Tryz.prog 62 #[v1,v2] w fun e w' => e = .returned (.int .i64 (cmpStrs l1 l2)) ∧ w = w' := by
 obtain ⟨a1,c1,rfl,-,-,-⟩ := h1.form
 obtain ⟨a2,c2,rfl,-,-,-⟩ := h2.form
 have H1 := ζ h1
 have H2 := ζ h2
 clear h1 h2
 go_enter Tryz.func62,Tryz.ntmps62
 go_wp2
 go_loop [11,5,6,7,8] (fun i _ _ _ _ => ∃ k : Nat,k ≤ l1.length ∧ k ≤ l2.length ∧ i = .int .i64 k ∧ cmpStrs l1 l2 = cmpStrs (l1.drop k) (l2.drop k)) (fun i _ _ _ _ => l1.length - (intOf i).toNat)
 case atStart => exact ⟨0,Nat.zero_le _,Nat.zero_le _,rfl,rfl⟩
 case round =>
  obtain ⟨k,hk,hk2,rfl,hr⟩ := hrel
  have HR := ζ hr
  clear hr
  by_cases hlt : k < l1.length
  ·obtain ⟨x,hx⟩ : ∃ x,l1[k]? = some x := ⟨_,ζe hlt⟩
   obtain ⟨b1,o1,rfl,-,-,hc1⟩ := H1.out.at hx
   have HX := ζ hx
   clear hx
   by_cases hlt2 : k < l2.length
   ·obtain ⟨y,hy⟩ : ∃ y,l2[k]? = some y := ⟨_,ζe hlt2⟩
    obtain ⟨b2,o2,rfl,-,-,hc2⟩ := H2.out.at hy
    have HY := ζ hy
    clear hy
    by_cases hz : cmpStr x y = 0
    ·have gz : (cmpStr x y != 0) = false := by simp [hz]
     have HZ := ζ hz
     clear hz
     go_wp2_with (go_at_call 60;refine (compareStr _ _ _).mono ?_;rintro e w' ⟨rfl,rfl⟩)
     go_round
     case rel =>
      refine ⟨k + 1,by omega,by omega,by go_num,?_⟩
      rw [HR.out,cmpStrs_drop_cons HX.out,cmpStrs_drop_cons HY.out]
      simp [cmpStrs,HZ.out]
     case measure => simp [intOf];omega
    ·have gz : (cmpStr x y != 0) = true := by simp [hz]
     have HZ := ζ hz
     clear hz
     go_wp2_with (go_at_call 60;refine (compareStr _ _ _).mono ?_;rintro e w' ⟨rfl,rfl⟩)
     go_ret
     refine ⟨ret_int ?_,rfl⟩
     rw [HR.out,cmpStrs_drop_cons HX.out,cmpStrs_drop_cons HY.out]
     simp [cmpStrs,HZ.out]
   ·go_wp2
    go_ret
    refine ⟨ret_int ?_,rfl⟩
    rw [HR.out,cmpStrs_drop_cons HX.out,List.drop_eq_nil_of_le (by omega : l2.length ≤ k)]
    simp [cmpStrs]
  ·by_cases hlt2 : k < l2.length
   ·go_wp2
    go_ret
    refine ⟨ret_int ?_,rfl⟩
    rw [HR.out,List.drop_eq_nil_of_le (by omega : l1.length ≤ k)]
    obtain ⟨y,hy⟩ : ∃ y,l2[k]? = some y := ⟨_,ζe hlt2⟩
    rw [cmpStrs_drop_cons hy]
    simp [cmpStrs]
   ·go_wp2
    go_ret
    refine ⟨ret_int ?_,rfl⟩
    rw [HR.out,List.drop_eq_nil_of_le (by omega : l1.length ≤ k),List.drop_eq_nil_of_le (by omega : l2.length ≤ k)]
    simp [cmpStrs]
theorem orInt_drop_cons {x : Int} {l : List Int} {k : Nat} (h : l[k]? = some x) : l.drop k = x :: l.drop (k + 1) := by
 obtain ⟨hk,rfl⟩ := List.getElem?_eq_some_iff.1 h
 exact List.drop_eq_getElem_cons hk
set_option maxHeartbeats 0 in
theorem cmpOr {S : Nat → Prop} (v : Value) (l : List Int) (w : World) (h : RdInts S w v l) (n1 : l.length ≤ 1073741824) :
 Calls Tryz.prog 59 #[v] w fun e w' => e = .returned (.int .i64 (orInt l)) ∧ w = w' := by
 obtain ⟨a,c,rfl,-,-,-⟩ := h.form
 have H := ζ h
 clear h
 go_enter Tryz.func59,Tryz.ntmps59
 go_wp2
 go_loop [8,5] (fun i _ => ∃ k : Nat,k ≤ l.length ∧ i = .int .i64 k ∧ orInt l = orInt (l.drop k)) (fun i _ => l.length - (intOf i).toNat)
 case atStart => exact ⟨0,Nat.zero_le _,rfl,rfl⟩
 case round =>
  obtain ⟨k,hk,rfl,hr⟩ := hrel
  have HR := ζ hr
  clear hr
  by_cases hlt : k < l.length
  ·obtain ⟨x,hx⟩ : ∃ x,l[k]? = some x := ⟨_,ζe hlt⟩
   obtain ⟨b,o,rfl,-,-,hc⟩ := H.out.at hx
   have HX := ζ hx
   clear hx
   by_cases hz : x = 0
   ·subst hz
    go_wp2
    go_round
    case rel =>
     refine ⟨k + 1,by omega,by go_num,?_⟩
     rw [HR.out,orInt_drop_cons HX.out]
     simp [orInt]
    case measure => simp [intOf];omega
   ·have gz : (x != 0) = true := by simp [hz]
    have HZ := ζ hz
    clear hz
    go_wp2
    go_ret
    refine ⟨ret_int ?_,rfl⟩
    rw [HR.out,orInt_drop_cons HX.out]
    simp [orInt,HZ.out]
  ·go_wp2
   go_ret
   refine ⟨ret_int ?_,rfl⟩
   rw [HR.out,List.drop_eq_nil_of_le (by omega : l.length ≤ k)]
   rfl
theorem cmpOr3 (p q r : Int) (w : World) (b : Nat) (h : w.heap[b]? = some (.cells #[.int .i64 p,.int .i64 q,.int .i64 r] 3 (0,0))) :
 Calls Tryz.prog 59 #[.slice (some ⟨b,0,none⟩) 3 3] w fun e w' => e = .returned (.int .i64 (orInt [p,q,r])) ∧ w = w' :=
 cmpOr (S := fun _ => True) _ [p,q,r] w (RdInts.block rfl h trivial (by unfold maxLen;omega)) (by simp)
attribute [local go_sem ↓] Go.wp_at_zero Go.wp_at_succ
set_option maxHeartbeats 0 in
theorem compareFact {S T : Nat → Prop} (f g : PFact) (va vb : Value) (w : World) (h1 : RdStrs S w va f.args) (h2 : RdStrs T w vb g.args) (n1 : f.args.length ≤ 1073741824) :
 Calls Tryz.prog 39 #[.agg #[.string f.name,va],.agg #[.string g.name,vb]] w fun e w' => e = .returned (.int .i64 (cmpFact f g)) ∧ Fresh w w' := by
 have K3 : ∀ w',Agree (fun _ => True) w w' → Calls Tryz.prog 62 #[va,vb] w' fun e w'' => e = .returned (.int .i64 (cmpStrs f.args g.args)) ∧ w' = w'' :=
  fun w' ha => slicesCompare va vb f.args g.args w' ((h1.more ζS (fun _ _ _ => trivial)).agree ζS ha) ((h2.more ζS (fun _ _ _ => trivial)).agree ζS ha) n1
 obtain ⟨a1,c1,rfl,-,-,-⟩ := h1.form
 obtain ⟨a2,c2,rfl,-,-,-⟩ := h2.form
 have e3 : cmpFact f g = orInt [cmpStr f.name g.name,cmpInt f.args.length g.args.length,cmpStrs f.args g.args] := rfl
 rw [e3]
 clear e3 h1 h2
 have HK := ζ K3
 clear K3
 generalize cmpStrs f.args g.args = r3 at *
 go_enter Tryz.func39,Tryz.ntmps39
 go_wp2_with fail
 go_region_held3 (fun w' => w'.cell? ⟨w.heap.size,0,none⟩ = some (.string f.name) ∧ w'.cell? ⟨w.heap.size,1,none⟩ = some (.slice a1 f.args.length c1) ∧
  w'.cell? ⟨w.heap.size + 1,0,none⟩ = some (.string g.name) ∧ w'.cell? ⟨w.heap.size + 1,1,none⟩ = some (.slice a2 g.args.length c2)) (go_keep)
  (first
   | (go_at_call 60;refine (compareStr _ _ _).mono ?_;rintro e w' ⟨rfl,rfl⟩)
   | (go_at_call 61;refine (compareInt _ _ _).mono ?_;rintro e w' ⟨rfl,rfl⟩)
   | (go_at_call 62;refine (HK.out _ ?_).mono ?_;(exact ((Agree.refl _ _).alloc _).alloc _);rintro e w' ⟨rfl,rfl⟩)
   | (go_at_call 59;refine (cmpOr3 (cmpStr f.name g.name) (cmpInt f.args.length g.args.length) r3 _ _ ?_).mono ?_;(exact heap_new_at (by simp));rintro e w' ⟨rfl,rfl⟩))
 go_wp2
 go_ret
 exact ⟨rfl,((((Fresh.refl _).alloc _).alloc _).alloc _).drew⟩
end
section
open Go.RowKit
structure RowT (P : Program) (t e : TypeId) (k : Nat) : Prop where
 ht : P.underlying t = some (.slice e)
 ex : ∃ i z,P.info? e = some i ∧ i.zero = some z ∧ i.size = k ∧ i.bytes ≤ 128 ∧ z.cells.size = k
 pos : 0 < k
theorem RowT.mk' {P : Program} {t e : TypeId} {k b : Nat} {z : Value} (ht : P.underlying t = some (.slice e)) (hi : (P.info? e).map (fun i => (i.zero,i.size,i.bytes)) = some (some z,k,b)) (hb : b ≤ 128) (hz : z.cells.size = k) (hk : 0 < k) : RowT P t e k := by
 obtain ⟨i,h1,h2,h3,h4⟩ := info_parts hi
 exact ⟨ht,⟨i,z,h1,h2,h3,by omega,hz⟩,hk⟩
def Owned {α : Type} (k : Nat) (R : Reader α) (B : Nat) (e : TypeId) (S : Nat → Prop) (w : World) (v : Value) (l : List α) : Prop :=
 ∃ css : List (List Value),css.length = l.length ∧ (∀ cs ∈ css,cs.length = k) ∧ w.ownsRow B e k v l.length css.flatten ∧
  ∀ (i : Nat) (cs : List Value) (x : α),css[i]? = some cs → l[i]? = some x → R (fun b => S b ∧ some b ≠ v.ownBlock) w cs x
theorem flatten_get {k : Nat} : ∀ (css : List (List Value)),(∀ cs ∈ css,cs.length = k) → ∀ i cs j u,css[i]? = some cs → cs[j]? = some u → css.flatten[i * k + j]? = some u
 | [],_,i,cs,j,u,h,_ => by simp at h
 | c :: css,hk,0,cs,j,u,h,hu => by
  obtain rfl : c = cs := by simpa using h
  have hj : j < c.length := (List.getElem?_eq_some_iff.1 hu).1
  rw [List.flatten_cons,Nat.zero_mul,Nat.zero_add,List.getElem?_append_left hj]
  exact hu
 | c :: css,hk,i + 1,cs,j,u,h,hu => by
  have hc : c.length = k := hk c (by simp)
  rw [List.flatten_cons,List.getElem?_append_right (by rw [hc,Nat.add_mul];omega),hc,show (i + 1) * k + j - k = i * k + j by rw [Nat.add_mul];omega]
  exact flatten_get css (fun c hc => hk c (by simp [hc])) i cs j u (by simpa using h) hu
section
variable {α : Type} {k : Nat} {R : Reader α} {B : Nat} {e : TypeId} {S : Nat → Prop} {w w' : World} {v v' : Value} {l : List α}
theorem Owned.nil : Owned k R B e S w (.slice none 0 0) ([] : List α) :=
 ⟨[],rfl,by simp,World.ownsRow_nil w B e k,by simp⟩
theorem Owned.made {cur : Array Value} {cap : Nat} (hb : B ≤ w.heap.size) (hm : cap ≤ maxLen) (hs : cur.size = cap * k) :
 Owned k R B e S (w.alloc (.cells cur e)) (.slice (some ⟨w.heap.size,0,none⟩) 0 cap) ([] : List α) :=
 ⟨[],rfl,by simp,World.ownsRow_made w cur cap hb hm hs,by simp⟩
theorem Owned.row_lt (h : Owned k R B e S w v l) {g : Nat} (hg : v.ownBlock = some g) : B ≤ g ∧ g < w.heap.size := by
 obtain ⟨css,_,_,ho,_⟩ := h
 exact ho.lt g hg
theorem Owned.keep (hR : Steady R) (h : Owned k R B e S w v l) (ha : Agree S w w') (hrow : ∀ g,v.ownBlock = some g → w'.heap[g]? = w.heap[g]?) : Owned k R B e S w' v l := by
 obtain ⟨css,h1,h2,ho,h3⟩ := h
 refine ⟨css,h1,h2,⟨ho.1,?_⟩,fun i cs x hc hx => hR.agree ⟨ha.1,fun b hb hlt => ha.2 b hb.1 hlt⟩ (h3 i cs x hc hx)⟩
 rcases ho.2 with hn | ⟨g,cap,cur,rfl,hb,hgg,rest⟩
 ·exact .inl hn
 ·exact .inr ⟨g,cap,cur,rfl,hb,by rw [hrow g rfl];exact hgg,rest⟩
theorem Owned.below (hR : Steady R) (h : Owned k R B e S w v l) (hb : Below w.heap.size w w') : Owned k R B e S w' v l :=
 h.keep hR (Below.agree hb) fun g hg => hb.block g (h.row_lt hg).2
theorem Owned.alloc (hR : Steady R) (h : Owned k R B e S w v l) (o : Obj) : Owned k R B e S (w.alloc o) v l :=
 h.below hR ((ζb _ _).alloc (ζn _) o)
theorem Owned.drew (hR : Steady R) (h : Owned k R B e S w v l) : Owned k R B e S w.drew v l := h.below hR (ζb _ _).drew
theorem Owned.setCell (hR : Steady R) (h : Owned k R B e S w v l) {p : Addr} (hp : ¬ S p.block) (ho : v.ownBlock ≠ some p.block) (u : Value) : Owned k R B e S (w.setCell p u) v l :=
 h.keep hR ⟨by simp [World.setCell],fun b hb _ => Below.heap_setCell _ _ _ _ (fun e => hp (by rw [← e];exact hb))⟩ fun g hg => Below.heap_setCell _ _ _ _ (fun e => ho (by rw [hg,e]))
theorem Owned.moreS (hR : Steady R) {S' : Nat → Prop} (h : Owned k R B e S w v l) (hs : ∀ b,S b → b < w.heap.size → S' b) : Owned k R B e S' w v l := by
 obtain ⟨css,h1,h2,ho,h3⟩ := h
 exact ⟨css,h1,h2,ho,fun i cs x hc hx => hR.more (fun b hb hlt => ⟨hs b hb.1 hlt,hb.2⟩) (h3 i cs x hc hx)⟩
theorem Owned.read (hR : Steady R) (h : Owned k R B e S w v l) : RdSlice k R (fun b => S b ∨ B ≤ b) w v l := by
 obtain ⟨css,h1,h2,ho,h3⟩ := h
 have hmore : ∀ {cs x},R (fun b => S b ∧ some b ≠ v.ownBlock) w cs x → R (fun b => S b ∨ B ≤ b) w cs x := fun hr => hR.more (fun b hb _ => .inl hb.1) hr
 rcases ho.2 with ⟨rfl,h0⟩ | ⟨g,cap,cur,rfl,hb,hgg,hnc,hcm,hcs,htake⟩
 ·refine ⟨none,0,by rw [h0],by omega,Nat.zero_le _,fun _ => rfl,fun i x hx => ?_⟩
  have := (List.getElem?_eq_some_iff.1 hx).1
  omega
 ·refine ⟨some ⟨g,0,none⟩,cap,rfl,hnc,hcm,(fun h => by cases h),fun i x hx => ?_⟩
  have hi := (List.getElem?_eq_some_iff.1 hx).1
  obtain ⟨cs,hcss⟩ : ∃ cs,css[i]? = some cs := ⟨_,ζe (by omega)⟩
  refine ⟨g,0,cs,rfl,.inr hb,(Array.getElem?_eq_some_iff.1 hgg).1,h2 cs (ζm hcss),fun j u hu => ?_,hmore (h3 i cs x hcss hx)⟩
  have := ho.cells (g := g) rfl (i * k + j) u (flatten_get css h2 i cs j u hcss hu)
  have hadd : (⟨g,0,none⟩ : Addr).add (i * k + j) = ⟨g,0 + i * k + j,none⟩ := by unfold Addr.add;split <;> simp_all
  rwa [hadd] at this
theorem Owned.snoc (hR : Steady R) (h : Owned k R B e S w v l) {cs : List Value} {x : α} (hk : cs.length = k) (hr : R (fun b => S b ∧ some b ≠ v.ownBlock) w cs x)
 (hown : ∀ xs,w.ownsRow B e k v l.length xs → w'.ownsRow B e k v' (l.length + 1) (xs ++ cs)) (hg : w.grownBy w' v.ownBlock) (hat : v'.ownBlock = v.ownBlock ∨ v'.ownBlock = some w.heap.size) :
 Owned k R B e S w' v' (l ++ [x]) := by
 obtain ⟨css,h1,h2,ho,h3⟩ := h
 have hmore : ∀ {cs x},R (fun b => S b ∧ some b ≠ v.ownBlock) w cs x → R (fun b => S b ∧ some b ≠ v'.ownBlock) w' cs x := fun {cs x} hr => by
  have r1 : R (fun b => (S b ∧ some b ≠ v.ownBlock) ∧ b < w.heap.size) w cs x := hR.more (fun b hb hlt => ⟨hb,hlt⟩) hr
  have r2 := hR.agree (w' := w') ⟨hg.size,fun b hb hlt => hg.block b hlt hb.1.2⟩ r1
  refine hR.more (fun b hb hlt => ⟨hb.1.1,fun e => ?_⟩) r2
  rcases hat with hat | hat
  ·exact hb.1.2 (e.trans hat)
  ·have : b = w.heap.size := Option.some.inj (e.trans hat)
   have := hb.2
   omega
 refine ⟨css ++ [cs],by simp [h1],?_,?_,?_⟩
 ·intro c hc
  rcases List.mem_append.1 hc with hc | hc
  ·exact h2 c hc
  ·obtain rfl := List.mem_singleton.1 hc;exact hk
 ·have := hown _ ho
  simpa using this
 ·intro i c y hc hy
  by_cases hi : i < css.length
  ·rw [List.getElem?_append_left hi] at hc
   rw [List.getElem?_append_left (by omega)] at hy
   exact hmore (h3 i c y hc hy)
  ·rw [List.getElem?_append_right (by omega)] at hc
   rw [List.getElem?_append_right (by omega)] at hy
   have hi0 : i - css.length = 0 := by
    have := (List.getElem?_eq_some_iff.1 hc).1
    simp at this
    omega
   rw [hi0] at hc
   rw [← h1,hi0] at hy
   obtain rfl : cs = c := by simpa using hc
   obtain rfl : x = y := by simpa using hy
   exact hmore hr
theorem Owned.append (hR : Steady R) (h : Owned k R B e S w v l) {css2 : List (List Value)} {l2 : List α} (hl : css2.length = l2.length) (hk : ∀ cs ∈ css2,cs.length = k)
 (hr : ∀ (i : Nat) (cs : List Value) (x : α),css2[i]? = some cs → l2[i]? = some x → R (fun b => S b ∧ some b ≠ v.ownBlock) w cs x)
 (hown : ∀ xs,w.ownsRow B e k v l.length xs → w'.ownsRow B e k v' (l.length + l2.length) (xs ++ css2.flatten)) (hg : w.grownBy w' v.ownBlock) (hat : v'.ownBlock = v.ownBlock ∨ v'.ownBlock = some w.heap.size) :
 Owned k R B e S w' v' (l ++ l2) := by
 obtain ⟨css,h1,h2,ho,h3⟩ := h
 have hmore : ∀ {cs x},R (fun b => S b ∧ some b ≠ v.ownBlock) w cs x → R (fun b => S b ∧ some b ≠ v'.ownBlock) w' cs x := fun {cs x} hr => by
  have r1 : R (fun b => (S b ∧ some b ≠ v.ownBlock) ∧ b < w.heap.size) w cs x := hR.more (fun b hb hlt => ⟨hb,hlt⟩) hr
  have r2 := hR.agree (w' := w') ⟨hg.size,fun b hb hlt => hg.block b hlt hb.1.2⟩ r1
  refine hR.more (fun b hb hlt => ⟨hb.1.1,fun e => ?_⟩) r2
  rcases hat with hat | hat
  ·exact hb.1.2 (e.trans hat)
  ·have : b = w.heap.size := Option.some.inj (e.trans hat)
   have := hb.2
   omega
 refine ⟨css ++ css2,by simp [h1,hl],?_,?_,?_⟩
 ·intro c hc
  rcases List.mem_append.1 hc with hc | hc
  ·exact h2 c hc
  ·exact hk c hc
 ·have := hown _ ho
  simpa using this
 ·intro i c y hc hy
  by_cases hi : i < css.length
  ·rw [List.getElem?_append_left hi] at hc
   rw [List.getElem?_append_left (by omega)] at hy
   exact hmore (h3 i c y hc hy)
  ·rw [List.getElem?_append_right (by omega)] at hc
   rw [List.getElem?_append_right (by omega)] at hy
   rw [← h1] at hy
   exact hmore (hr _ c y hc hy)
end
section
variable {P : Program} {w : World} {α : Type} {k : Nat} {R : Reader α} {B : Nat} {e : TypeId} {S : Nat → Prop}
theorem run_append_one (hR : Steady R) {t ty : TypeId} (T : RowT P t e k) {v : Value} {l : List α} (hown : Owned k R B e S w v l) (bx c : Nat) (cs : Array Value) (te : TypeId) (fr : Nat × Nat) (x : α)
 (hblk : w.heap[bx]? = some (.cells cs te fr)) (hk : cs.size = k) (h1 : ∀ u ∈ cs.toList,u.oneCell' = true) (hr : R (fun b => S b ∧ some b ≠ v.ownBlock) w cs.toList x) (hlen : l.length < 1099511627776) (hbase : B ≤ w.heap.size) :
 ∃ v' w',(Builtin.append_ #[t,t] ty #[v,.slice (some ⟨bx,0,none⟩) 1 c]).run P w = .ok v' w' ∧ Owned k R B e S w' v' (l ++ [x]) ∧ w.grownBy w' v.ownBlock ∧ (v'.ownBlock = v.ownBlock ∨ v'.ownBlock = some w.heap.size) := by
 obtain ⟨i,z,hi,hz,hsize,hby,hzs⟩ := T.ex
 have h := hown
 obtain ⟨css,_,_,ho,_⟩ := h
 obtain ⟨v',w',hrun,h2,h3,_,h5⟩ := run_append_own_at (P := P) w B t ty e i z k i.bytes T.ht hi hz hsize rfl hzs T.pos v l.length css.flatten ho ⟨bx,0,none⟩ 1 c cs.toList (by simp [hk])
  (World.news_of_block hblk) h1 (by unfold maxLen;omega) (by have : (l.length + 1) * i.bytes ≤ 1099511627776 * 128 := Nat.mul_le_mul (by omega) hby;omega) hbase
 refine ⟨v',w',hrun,?_,h3,h5⟩
 refine hown.snoc hR (by simpa using hk) hr (fun xs hxs => ?_) h3 h5
 have e1 : xs = css.flatten := by
  rcases hxs.2 with ⟨hv,hn⟩ | ⟨g,cap,cur,hv,hb,hg,_,_,_,ht⟩
  ·have a1 : xs = [] := List.eq_nil_of_length_eq_zero (by rw [hxs.1,hn,Nat.zero_mul])
   have a2 : css.flatten = [] := List.eq_nil_of_length_eq_zero (by rw [ho.1,hn,Nat.zero_mul])
   rw [a1,a2]
  ·rcases ho.2 with ⟨hv',hn⟩ | ⟨g',cap',cur',hv',hb',hg',_,_,_,ht'⟩
   ·have a1 : xs = [] := List.eq_nil_of_length_eq_zero (by rw [hxs.1,hn,Nat.zero_mul])
    have a2 : css.flatten = [] := List.eq_nil_of_length_eq_zero (by rw [ho.1,hn,Nat.zero_mul])
    rw [a1,a2]
   ·rw [hv] at hv'
    injection hv' with q1 q2 q3
    injection q1 with q1
    injection q1 with q1 _ _
    subst q1
    rw [hg] at hg'
    injection hg' with q
    injection q with q _ _
    subst q
    rw [← ht,← ht']
 rw [e1]
 exact h2
theorem Owned.ext_row {v : Value} {n : Nat} {xs ys : List Value} (hx : w.ownsRow B e k v n xs) (hy : w.ownsRow B e k v n ys) : xs = ys := by
 rcases hx.2 with ⟨hv,hn⟩ | ⟨g,cap,cur,hv,hb,hg,_,_,_,ht⟩
 ·have a1 : xs = [] := List.eq_nil_of_length_eq_zero (by rw [hx.1,hn,Nat.zero_mul])
  have a2 : ys = [] := List.eq_nil_of_length_eq_zero (by rw [hy.1,hn,Nat.zero_mul])
  rw [a1,a2]
 ·rcases hy.2 with ⟨hv',hn⟩ | ⟨g',cap',cur',hv',hb',hg',_,_,_,ht'⟩
  ·have a1 : xs = [] := List.eq_nil_of_length_eq_zero (by rw [hx.1,hn,Nat.zero_mul])
   have a2 : ys = [] := List.eq_nil_of_length_eq_zero (by rw [hy.1,hn,Nat.zero_mul])
   rw [a1,a2]
  ·rw [hv] at hv'
   injection hv' with q1 q2 q3
   injection q1 with q1
   injection q1 with q1 _ _
   subst q1
   rw [hg] at hg'
   injection hg' with q
   injection q with q _ _
   subst q
   rw [← ht,← ht']
theorem wpList_append_one {ops : Array Oper} {rest : List Oper} {o : Oper} {a : Act} {Q : Exit → Act → World → Prop} (hgd : o.guard = none) (s x : Operand) (t : TypeId)
 (ho : o.op = .call { callee := .builtin .append,args := #[s,x],argTypes := #[t,t] }) (hR : Steady R) (T : RowT P t e k) (v : Value) (l : List α) (hs : a.eval s = v) (hown : Owned k R B e S w v l)
 (bx c : Nat) (cs : Array Value) (te : TypeId) (fr : Nat × Nat) (y : α) (hx : a.eval x = .slice (some ⟨bx,0,none⟩) 1 c) (hblk : w.heap[bx]? = some (.cells cs te fr)) (hk : cs.size = k) (h1 : ∀ u ∈ cs.toList,u.oneCell' = true)
 (hr : R (fun b => S b ∧ some b ≠ v.ownBlock) w cs.toList y) (hlen : l.length < 1099511627776) (hbase : B ≤ w.heap.size)
 (h : ∀ v' w',Owned k R B e S w' v' (l ++ [y]) → w.grownBy w' v.ownBlock → (v'.ownBlock = v.ownBlock ∨ v'.ownBlock = some w.heap.size) → wpList P ops Q rest (a.put o.dst v') w') : wpList P ops Q (o :: rest) a w :=
 wpList_plain hgd fun K hK => by
  obtain ⟨v',w',hrun,h2,h3,h4⟩ := run_append_one (P := P) (ty := o.type) hR T hown bx c cs te fr y hblk hk h1 hr hlen hbase
  unfold Oper.wp execOp
  simp only [ho,resolve,invoke,builtin,Sem.run_bind,Sem.run_pure,Result.andThen_ok,List.map_toArray,List.map_cons,List.map_nil,hs,hx,hrun]
  exact hK _ _ (h v' w' h2 h3 h4)
theorem step_append_one {ops : Array Oper} {o : Oper} {a : Act} {K : Act → World → Prop} {Q : Exit → Act → World → Prop} {E : Prop} (hgd : o.guard = none) (s x : Operand) (t : TypeId)
 (ho : o.op = .call { callee := .builtin .append,args := #[s,x],argTypes := #[t,t] }) (hR : Steady R) (T : RowT P t e k) (v : Value) (l : List α) (hs : a.eval s = v) (hown : Owned k R B e S w v l)
 (bx c : Nat) (cs : Array Value) (te : TypeId) (fr : Nat × Nat) (y : α) (hx : a.eval x = .slice (some ⟨bx,0,none⟩) 1 c) (hblk : w.heap[bx]? = some (.cells cs te fr)) (hk : cs.size = k) (h1 : ∀ u ∈ cs.toList,u.oneCell' = true)
 (hr : R (fun b => S b ∧ some b ≠ v.ownBlock) w cs.toList y) (hlen : l.length < 1099511627776) (hbase : B ≤ w.heap.size)
 (h : ∀ v' w',Owned k R B e S w' v' (l ++ [y]) → w.grownBy w' v.ownBlock → (v'.ownBlock = v.ownBlock ∨ v'.ownBlock = some w.heap.size) → K (a.put o.dst v') w') :
 if Region.wanted o (yielded ops a.tmps) = true then Oper.wp P o a w K Q else E := by
 have hw : Region.wanted o (yielded ops a.tmps) = true := by simp [Region.wanted,hgd]
 rw [if_pos hw]
 obtain ⟨v',w',hrun,h2,h3,h4⟩ := run_append_one (P := P) (ty := o.type) hR T hown bx c cs te fr y hblk hk h1 hr hlen hbase
 unfold Oper.wp execOp
 simp only [ho,resolve,invoke,builtin,Sem.run_bind,Sem.run_pure,Result.andThen_ok,List.map_toArray,List.map_cons,List.map_nil,hs,hx,hrun]
 exact h v' w' h2 h3 h4
theorem run_append_many (hR : Steady R) (hcell : ∀ {S w cs x},R S w cs x → ∀ u ∈ cs,u.oneCell' = true) {t ty : TypeId} (T : RowT P t e k) {v : Value} {l : List α} (hown : Owned k R B e S w v l) {v2 : Value} {l2 : List α}
 {S2 : Nat → Prop} (h2 : RdSlice k R S2 w v2 l2) (hm : ∀ cs x,R S2 w cs x → R (fun b => S b ∧ some b ≠ v.ownBlock) w cs x) (hlen : l.length + l2.length < 1099511627776) (hbase : B ≤ w.heap.size) :
 ∃ v' w',(Builtin.append_ #[t,t] ty #[v,v2]).run P w = .ok v' w' ∧ Owned k R B e S w' v' (l ++ l2) ∧ w.grownBy w' v.ownBlock ∧ (v'.ownBlock = v.ownBlock ∨ v'.ownBlock = some w.heap.size) := by
 obtain ⟨i,z,hi,hz,hsize,hby,hzs⟩ := T.ex
 have h := hown
 obtain ⟨css,_,_,ho,_⟩ := h
 obtain ⟨a2,c2,rfl,hl2,hc2,hnil,hel⟩ := h2
 cases a2 with
 | none =>
  have hl : l2 = [] := by
   cases l2 with
   | nil => rfl
   | cons x r => obtain ⟨b,off,cs,ha,_⟩ := hel 0 x rfl;cases ha
  subst hl
  obtain rfl := hnil rfl
  refine ⟨v,w,run_append_owned_none (P := P) (w := w) B t ty e i k T.ht hi v l.length css.flatten ho,by simpa using hown,⟨rfl,rfl,rfl,ζn _,fun _ _ _ => rfl⟩,.inl rfl⟩
 | some a2 =>
  have hpick : ∀ j,j < l2.length → ∃ b off cs,a2 = ⟨b,off,none⟩ ∧ cs.length = k ∧ (∀ q u,cs[q]? = some u → w.cell? ⟨b,off + j * k + q,none⟩ = some u) ∧ ∃ x,l2[j]? = some x ∧ R (fun b => S b ∧ some b ≠ v.ownBlock) w cs x := fun j hj => by
   obtain ⟨b,off,cs,ha,_,_,hk,hc,hr⟩ := hel j l2[j] (ζe hj)
   exact ⟨b,off,cs,Option.some.inj ha,hk,hc,_,ζe hj,hm _ _ hr⟩
  obtain ⟨css2,hlen2,hk2,hcells,hr2⟩ : ∃ css2 : List (List Value),css2.length = l2.length ∧ (∀ cs ∈ css2,cs.length = k) ∧ (∀ (j : Nat) (u : Value),css2.flatten[j]? = some u → w.cell? (a2.add j) = some u) ∧
   (∀ (j : Nat) (cs : List Value) (x : α),css2[j]? = some cs → l2[j]? = some x → R (fun b => S b ∧ some b ≠ v.ownBlock) w cs x) := by
   have main : ∀ n,n ≤ l2.length → ∃ css2 : List (List Value),css2.length = n ∧ (∀ cs ∈ css2,cs.length = k) ∧ (∀ (j : Nat) (u : Value),css2.flatten[j]? = some u → w.cell? (a2.add j) = some u) ∧
    (∀ (j : Nat) (cs : List Value) (x : α),css2[j]? = some cs → l2[j]? = some x → R (fun b => S b ∧ some b ≠ v.ownBlock) w cs x) := by
    intro n
    induction n with
    | zero => exact fun _ => ⟨[],rfl,by simp,by simp,by simp⟩
    | succ n ih =>
     intro hn
     obtain ⟨css2,g1,g2,g3,g4⟩ := ih (by omega)
     obtain ⟨b,off,cs,ha,hk,hc,x,hx,hr⟩ := hpick n (by omega)
     have hfl : css2.flatten.length = n * k := by
      rw [← g1]
      clear g3 g4 g1 ih
      induction css2 with
      | nil => simp
      | cons c r ih => rw [List.flatten_cons,List.length_append,ih (fun c hc => g2 c (by simp [hc])),g2 c (by simp),List.length_cons,Nat.add_mul];omega
     refine ⟨css2 ++ [cs],by simp [g1],?_,?_,?_⟩
     ·intro c hcm
      rcases List.mem_append.1 hcm with hcm | hcm
      ·exact g2 c hcm
      ·obtain rfl := List.mem_singleton.1 hcm;exact hk
     ·intro j u hu
      rw [List.flatten_append,List.flatten_singleton] at hu
      by_cases hj : j < css2.flatten.length
      ·rw [List.getElem?_append_left hj] at hu;exact g3 j u hu
      ·rw [List.getElem?_append_right (by omega)] at hu
       have := hc _ _ hu
       rw [ha]
       have hadd : (⟨b,off,none⟩ : Addr).add j = ⟨b,off + n * k + (j - css2.flatten.length),none⟩ := by
        unfold Addr.add
        split
        ·rename_i h0
         subst h0
         simp only [Addr.mk.injEq,and_true,true_and];omega
        ·simp only [Addr.mk.injEq,and_true,true_and];omega
       rw [hadd]
       exact this
     ·intro j c y hcj hy
      by_cases hj : j < css2.length
      ·rw [List.getElem?_append_left hj] at hcj;exact g4 j c y hcj hy
      ·rw [List.getElem?_append_right (by omega)] at hcj
       have hj0 : j - css2.length = 0 := by
        have := (List.getElem?_eq_some_iff.1 hcj).1
        simp at this;omega
       rw [hj0] at hcj
       obtain rfl : cs = c := by simpa using hcj
       have : j = n := by omega
       subst this
       rw [hx] at hy
       obtain rfl := Option.some.inj hy
       exact hr
   exact main l2.length (ζn _)
  have hone : ∀ u ∈ css2.flatten,u.oneCell' = true := by
   intro u hu
   obtain ⟨cs,hcs,huc⟩ := List.mem_flatten.1 hu
   obtain ⟨j,hj⟩ := List.mem_iff_getElem?.1 hcs
   have hjl : j < l2.length := by have := (List.getElem?_eq_some_iff.1 hj).1;omega
   exact hcell (hr2 j cs l2[j] hj (ζe hjl)) u huc
  have hfl : css2.flatten.length = l2.length * k := by
   rw [← hlen2]
   clear hcells hr2 hone hlen2
   induction css2 with
   | nil => simp
   | cons c r ih => rw [List.flatten_cons,List.length_append,ih (fun c hc => hk2 c (by simp [hc])),hk2 c (by simp),List.length_cons,Nat.add_mul];omega
  obtain ⟨v',w',hrun,q2,q3,_,q5⟩ := run_append_own_at (P := P) w B t ty e i z k i.bytes T.ht hi hz hsize rfl hzs T.pos v l.length css.flatten ho a2 l2.length c2 css2.flatten hfl hcells hone
   (by unfold maxLen;omega) (by have : (l.length + l2.length) * i.bytes ≤ 1099511627776 * 128 := Nat.mul_le_mul (by omega) hby;omega) hbase
  exact ⟨v',w',hrun,hown.append hR hlen2 hk2 hr2 (fun xs hxs => by rw [Owned.ext_row hxs ho];exact q2) q3 q5,q3,q5⟩
theorem wpList_append_many {ops : Array Oper} {rest : List Oper} {o : Oper} {a : Act} {Q : Exit → Act → World → Prop} (hgd : o.guard = none) (s x : Operand) (t : TypeId)
 (ho : o.op = .call { callee := .builtin .append,args := #[s,x],argTypes := #[t,t] }) (hR : Steady R) (hcell : ∀ {S w cs x},R S w cs x → ∀ u ∈ cs,u.oneCell' = true) (T : RowT P t e k) (v : Value) (l : List α) (hs : a.eval s = v) (hown : Owned k R B e S w v l)
 (v2 : Value) (l2 : List α) (hx : a.eval x = v2) {S2 : Nat → Prop} (h2 : RdSlice k R S2 w v2 l2) (hm : ∀ cs x,R S2 w cs x → R (fun b => S b ∧ some b ≠ v.ownBlock) w cs x) (hlen : l.length + l2.length < 1099511627776) (hbase : B ≤ w.heap.size)
 (h : ∀ v' w',Owned k R B e S w' v' (l ++ l2) → w.grownBy w' v.ownBlock → (v'.ownBlock = v.ownBlock ∨ v'.ownBlock = some w.heap.size) → wpList P ops Q rest (a.put o.dst v') w') : wpList P ops Q (o :: rest) a w :=
 wpList_plain hgd fun K hK => by
  obtain ⟨v',w',hrun,q2,q3,q4⟩ := run_append_many (P := P) (ty := o.type) hR hcell T hown h2 hm hlen hbase
  unfold Oper.wp execOp
  simp only [ho,resolve,invoke,builtin,Sem.run_bind,Sem.run_pure,Result.andThen_ok,List.map_toArray,List.map_cons,List.map_nil,hs,hx,hrun]
  exact hK _ _ (h v' w' q2 q3 q4)
end
theorem Agree.drew {S : Nat → Prop} {w w' : World} (h : Agree S w w') : Agree S w w'.drew := h
abbrev New (w : World) : Nat → Prop := fun b => w.heap.size ≤ b
theorem kept_cell {W1 w1 w2 : World} {o : Obj} {r : Option Nat} {c : Nat} (hb1 : Below W1.heap.size W1 w1) (hg2 : (w1.alloc o).grownBy w2 r) (hc : c < W1.heap.size) (hr : r ≠ some c) (off : Nat) : w2.cell? ⟨c,off,none⟩ = W1.cell? ⟨c,off,none⟩ := by
 have hlt : c < w1.heap.size := Nat.lt_of_lt_of_le hc hb1.size
 rw [hg2.cell_far ⟨c,off,none⟩ (by simp;omega) (fun e => hr e.symm)]
 exact (World.cell?_of_block (Below.heap_alloc _ _ _ hlt)).trans (hb1.cell (p := ⟨c,off,none⟩) hc)
theorem RStr.one {S : Nat → Prop} {w : World} {cs : List Value} {x : Str} (h : RStr S w cs x) : ∀ u ∈ cs,u.oneCell' = true := by
 have h' : cs = [.string x] := h
 subst h';simp [Value.oneCell']
theorem RFact.one {S : Nat → Prop} {w : World} {cs : List Value} {x : PFact} (h : RFact S w cs x) : ∀ u ∈ cs,u.oneCell' = true := by
 obtain ⟨av,rfl,hr⟩ := h
 obtain ⟨a,c,rfl,-⟩ := hr.form
 simp [Value.oneCell']
theorem rowStrs : RowT Tryz.prog 25 9 1 := RowT.mk' (b := 16) (z := .string ⟨#[]⟩) Tryz.underlying25 (by kernel_rfl) (by omega) rfl (by omega)
end
end Go.Proofs.YtdngkcieckejoaaGreat
