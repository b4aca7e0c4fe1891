/-
  THE TEXTS Pure, Base, NamesP, Named, Own, SynP, one behind the other.
-/
import Derived.Laws.Strings
import Derived.Test.YtiiicochdidolaaGreatProg
import Derived.WalkKit
import Derived.WalkLawsBesides
import Derived.WalkSpells
import Derived.Outline
import Derived.Lib.Hide
import Derived.Deep.RegionHeld3
import Derived.Deep.AppendLies
import Derived.Deep.DrawnRows
import Derived.Deep.LoopGhost
import Derived.Laws.Pointers
import Derived.Sort.Grow
import Derived.Maps.AppendAt
import Derived.Laws.AppendOwnNone
import Derived.Deep.RegionLaw
namespace Go.Proofs.YtiiicochdidolaaGreat
abbrev Str := ByteArray
structure PFact where
  name : Str
  args : List Str
  deriving DecidableEq
instance : Inhabited PFact := ⟨⟨ByteArray.empty,[]⟩⟩
structure PTerm where
  var : Bool
  name : Str
  deriving DecidableEq
instance : Inhabited PTerm := ⟨⟨false,ByteArray.empty⟩⟩
structure PAtom where
  neg : Bool
  name : Str
  terms : List PTerm
  deriving DecidableEq
instance : Inhabited PAtom := ⟨⟨false,ByteArray.empty,[]⟩⟩
structure PRule where
  head : PAtom
  body : List PAtom
  deriving DecidableEq
instance : Inhabited PRule := ⟨⟨default,[]⟩⟩
structure PBind where
  var : Str
  name : Str
  deriving DecidableEq
instance : Inhabited PBind := ⟨⟨ByteArray.empty,ByteArray.empty⟩⟩
theorem bytesLess_irrefl : ∀ l : List UInt8,Op.bytesLess l l = false
  | [] => rfl
  | a :: x => by simp [Op.bytesLess,bytesLess_irrefl x]
theorem bytesLess_tri : ∀ a b : List UInt8,Op.bytesLess a b = false → Op.bytesLess b a = false → a = b
  | [],[],_,_ => rfl
  | [],_ :: _,h,_ => by simp [Op.bytesLess] at h
  | _ :: _,[],_,h => by simp [Op.bytesLess] at h
  | a :: x,b :: y,h,k => by
    simp only [Op.bytesLess,Bool.or_eq_false_iff,decide_eq_false_iff_not,Bool.and_eq_false_iff,beq_eq_false_iff_ne] at h k
    have e : a = b := UInt8.le_antisymm (UInt8.not_lt.1 k.1) (UInt8.not_lt.1 h.1)
    subst e
    have := bytesLess_tri x y (by simpa using h.2) (by simpa using k.2)
    rw [this]
theorem bytesLess_asymm : ∀ a b : List UInt8,Op.bytesLess a b = true → Op.bytesLess b a = false
  | [],[],h => by simp [Op.bytesLess] at h
  | [],_ :: _,_ => rfl
  | _ :: _,[],h => by simp [Op.bytesLess] at h
  | a :: x,b :: y,h => by
    simp only [Op.bytesLess,Bool.or_eq_true,decide_eq_true_eq,Bool.and_eq_true,beq_iff_eq] at h
    rcases h with h | ⟨rfl,h⟩
    · have h1 : ¬ b < a := fun h' => absurd (UInt8.lt_trans h h') (UInt8.lt_irrefl _)
      have h2 : b ≠ a := fun e => by subst e;exact UInt8.lt_irrefl _ h
      simp [Op.bytesLess,h1,h2]
    · simp [Op.bytesLess,bytesLess_asymm x y h]
theorem bytesLess_trans : ∀ a b c : List UInt8,Op.bytesLess a b = true → Op.bytesLess b c = true → Op.bytesLess a c = true
  | _,[],_,h,_ => by cases ‹List UInt8› <;> simp [Op.bytesLess] at h
  | _,_ :: _,[],_,h => by simp [Op.bytesLess] at h
  | [],_ :: _,_ :: _,_,_ => rfl
  | a :: x,b :: y,c :: z,h,k => by
    simp only [Op.bytesLess,Bool.or_eq_true,decide_eq_true_eq,Bool.and_eq_true,beq_iff_eq] at h k ⊢
    rcases h with h | ⟨rfl,h⟩ <;> rcases k with k | ⟨rfl,k⟩
    · exact .inl (UInt8.lt_trans h k)
    · exact .inl h
    · exact .inl k
    · exact .inr ⟨rfl,bytesLess_trans x y z h k⟩
theorem baList (a : ByteArray) : a.toList = a.data.toList := by
  exact ByteArray.toList_eq a
theorem toList_inj {a b : ByteArray} (h : a.toList = b.toList) : a = b := by
  rw [baList,baList] at h
  cases a;cases b
  simpa [Array.toList_inj] using h
def strLt (a b : Str) : Bool := Op.bytesLess a.toList b.toList
theorem strLt_irrefl (a : Str) : strLt a a = false := bytesLess_irrefl _
theorem strLt_asymm {a b : Str} (h : strLt a b = true) : strLt b a = false := bytesLess_asymm _ _ h
theorem strLt_trans {a b c : Str} (h : strLt a b = true) (k : strLt b c = true) : strLt a c = true := bytesLess_trans _ _ _ h k
theorem strLt_tri {a b : Str} (h : strLt a b = false) (k : strLt b a = false) : a = b := toList_inj (bytesLess_tri _ _ h k)
def memS (x : Str) : List Str → Bool
  | [] => false
  | y :: l => decide (x = y) || memS x l
theorem memS_iff (x : Str) : ∀ l,memS x l = true ↔ x ∈ l
  | [] => by simp [memS]
  | y :: l => by simp [memS,memS_iff x l]
def cmpStr (a b : Str) : Int := if strLt a b then -1 else if strLt b a then 1 else 0
def cmpInt (a b : Int) : Int := if a < b then -1 else if b < a then 1 else 0
def cmpStrs : List Str → List Str → Int
  | [],[] => 0
  | [],_ :: _ => -1
  | _ :: _,[] => 1
  | a :: x,b :: y => if cmpStr a b ≠ 0 then cmpStr a b else cmpStrs x y
def orInt : List Int → Int
  | [] => 0
  | a :: l => if a ≠ 0 then a else orInt l
def cmpFact (f g : PFact) : Int := orInt [cmpStr f.name g.name,cmpInt f.args.length g.args.length,cmpStrs f.args g.args]
end Go.Proofs.YtiiicochdidolaaGreat
namespace Go.Proofs.YtiiicochdidolaaGreat
open Go.RowKit
abbrev Reader (α : Type) := (Nat → Prop) → World → List Value → α → Prop
def RdSlice {α : Type} (k : Nat) (R : Reader α) (S : Nat → Prop) (w : World) (v : Value) (l : List α) : Prop :=
  ∃ a cap,v = .slice a l.length cap ∧ l.length ≤ cap ∧ cap ≤ maxLen ∧ (a = none → cap = 0) ∧
    ∀ i x,l[i]? = some x → ∃ b off cs,a = some ⟨b,off,none⟩ ∧ S b ∧ b < w.heap.size ∧ cs.length = k ∧
      (∀ j u,cs[j]? = some u → w.cell? ⟨b,off + i * k + j,none⟩ = some u) ∧ R S w cs x
def Agree (S : Nat → Prop) (w w' : World) : Prop := w.heap.size ≤ w'.heap.size ∧ ∀ b,S b → b < w.heap.size → w'.heap[b]? = w.heap[b]?
structure Steady {α : Type} (R : Reader α) : Prop where
  agree : ∀ {S w w' cs x},Agree S w w' → R S w cs x → R S w' cs x
  more : ∀ {S S' : Nat → Prop} {w cs x},(∀ b,S b → b < w.heap.size → S' b) → R S w cs x → R S' w cs x
theorem Agree.cell {S : Nat → Prop} {w w' : World} (h : Agree S w w') {b : Nat} (hS : S b) (hb : b < w.heap.size) (off : Nat) : w'.cell? ⟨b,off,none⟩ = w.cell? ⟨b,off,none⟩ :=
  World.cell?_of_block (h.2 b hS hb)
theorem RdSlice.agree {α : Type} {k : Nat} {R : Reader α} (hR : Steady R) {S : Nat → Prop} {w w' : World} {v : Value} {l : List α} (h : Agree S w w') (r : RdSlice k R S w v l) : RdSlice k R S w' v l := by
  obtain ⟨a,cap,hv,h1,h2,h0,h3⟩ := r
  refine ⟨a,cap,hv,h1,h2,h0,fun i x hx => ?_⟩
  obtain ⟨b,off,cs,ha,hS,hb,hk,hc,hr⟩ := h3 i x hx
  exact ⟨b,off,cs,ha,hS,Nat.lt_of_lt_of_le hb h.1,hk,fun j u hu => (h.cell hS hb _).trans (hc j u hu),hR.agree h hr⟩
theorem RdSlice.more {α : Type} {k : Nat} {R : Reader α} (hR : Steady R) {S S' : Nat → Prop} {w : World} {v : Value} {l : List α} (h : ∀ b,S b → b < w.heap.size → S' b) (r : RdSlice k R S w v l) : RdSlice k R S' w v l := by
  obtain ⟨a,cap,hv,h1,h2,h0,h3⟩ := r
  refine ⟨a,cap,hv,h1,h2,h0,fun i x hx => ?_⟩
  obtain ⟨b,off,cs,ha,hS,hb,hk,hc,hr⟩ := h3 i x hx
  exact ⟨b,off,cs,ha,h b hS hb,hb,hk,hc,hR.more h hr⟩
def RStr : Reader Str := fun _ _ cs s => cs = [.string s]
theorem RStr.steady : Steady RStr := ⟨fun _ h => h,fun _ h => h⟩
abbrev RdStrs := RdSlice 1 RStr
def RInt : Reader Int := fun _ _ cs n => cs = [.int .i64 n]
theorem RInt.steady : Steady RInt := ⟨fun _ h => h,fun _ h => h⟩
abbrev RdInts := RdSlice 1 RInt
def RFact : Reader PFact := fun S w cs f => ∃ av,cs = [.string f.name,av] ∧ RdStrs S w av f.args
theorem RFact.steady : Steady RFact :=
  ⟨fun h ⟨av,hc,r⟩ => ⟨av,hc,r.agree RStr.steady h⟩,fun h ⟨av,hc,r⟩ => ⟨av,hc,r.more RStr.steady h⟩⟩
abbrev RdFacts := RdSlice 2 RFact
def RTerm : Reader PTerm := fun _ _ cs t => cs = [.bool t.var,.string t.name]
theorem RTerm.steady : Steady RTerm := ⟨fun _ h => h,fun _ h => h⟩
abbrev RdTerms := RdSlice 2 RTerm
def RAtom : Reader PAtom := fun S w cs a => ∃ tv,cs = [.bool a.neg,.string a.name,tv] ∧ RdTerms S w tv a.terms
theorem RAtom.steady : Steady RAtom :=
  ⟨fun h ⟨av,hc,r⟩ => ⟨av,hc,r.agree RTerm.steady h⟩,fun h ⟨av,hc,r⟩ => ⟨av,hc,r.more RTerm.steady h⟩⟩
abbrev RdAtoms := RdSlice 3 RAtom
def RRule : Reader PRule := fun S w cs r => ∃ tv bv,cs = [.bool r.head.neg,.string r.head.name,tv,bv] ∧ RdTerms S w tv r.head.terms ∧ RdAtoms S w bv r.body
theorem RRule.steady : Steady RRule :=
  ⟨fun h ⟨tv,bv,hc,r,q⟩ => ⟨tv,bv,hc,r.agree RTerm.steady h,q.agree RAtom.steady h⟩,fun h ⟨tv,bv,hc,r,q⟩ => ⟨tv,bv,hc,r.more RTerm.steady h,q.more RAtom.steady h⟩⟩
abbrev RdRules := RdSlice 4 RRule
def RBind : Reader PBind := fun _ _ cs b => cs = [.string b.var,.string b.name]
theorem RBind.steady : Steady RBind := ⟨fun _ h => h,fun _ h => h⟩
abbrev RdBinds := RdSlice 2 RBind
def RBinds : Reader (List PBind) := fun S w cs l => ∃ v,cs = [v] ∧ RdBinds S w v l
theorem RBinds.steady : Steady RBinds :=
  ⟨fun h ⟨av,hc,r⟩ => ⟨av,hc,r.agree RBind.steady h⟩,fun h ⟨av,hc,r⟩ => ⟨av,hc,r.more RBind.steady h⟩⟩
abbrev RdBindss := RdSlice 1 RBinds
theorem RdStrs.at {S : Nat → Prop} {w : World} {a : Option Addr} {n cap : Nat} {l : List Str} (h : RdStrs S w (.slice a n cap) l) {i : Nat} {x : Str} (hx : l[i]? = some x) :
    ∃ b off,a = some ⟨b,off,none⟩ ∧ S b ∧ b < w.heap.size ∧ w.cell? ⟨b,off + i,none⟩ = some (.string x) := by
  obtain ⟨a',cap',hv,_,_,_,h3⟩ := h
  obtain ⟨b,off,cs,ha,hS,hb,hk,hc,hr⟩ := h3 i x hx
  injection hv with e1 e2 e3
  subst e1
  have hr' : cs = [.string x] := hr
  subst hr'
  refine ⟨b,off,ha,hS,hb,?_⟩
  have := hc 0 (.string x) rfl
  simpa using this
theorem RdInts.at {S : Nat → Prop} {w : World} {a : Option Addr} {n cap : Nat} {l : List Int} (h : RdInts S w (.slice a n cap) l) {i : Nat} {x : Int} (hx : l[i]? = some x) :
    ∃ b off,a = some ⟨b,off,none⟩ ∧ S b ∧ b < w.heap.size ∧ w.cell? ⟨b,off + i,none⟩ = some (.int .i64 x) := by
  obtain ⟨a',cap',hv,_,_,_,h3⟩ := h
  obtain ⟨b,off,cs,ha,hS,hb,hk,hc,hr⟩ := h3 i x hx
  injection hv with e1 e2 e3
  subst e1
  have hr' : cs = [.int .i64 x] := hr
  subst hr'
  refine ⟨b,off,ha,hS,hb,?_⟩
  have := hc 0 (.int .i64 x) rfl
  simpa using this
theorem RdFacts.at {S : Nat → Prop} {w : World} {a : Option Addr} {n cap : Nat} {l : List PFact} (h : RdFacts S w (.slice a n cap) l) {i : Nat} {x : PFact} (hx : l[i]? = some x) :
    ∃ b off av,a = some ⟨b,off,none⟩ ∧ S b ∧ b < w.heap.size ∧ w.cell? ⟨b,off + i * 2,none⟩ = some (.string x.name) ∧ w.cell? ⟨b,off + i * 2 + 1,none⟩ = some av ∧ RdStrs S w av x.args := by
  obtain ⟨a',cap',hv,_,_,_,h3⟩ := h
  obtain ⟨b,off,cs,ha,hS,hb,hk,hc,av,hr,hq⟩ := h3 i x hx
  injection hv with e1 e2 e3
  subst e1
  subst hr
  refine ⟨b,off,av,ha,hS,hb,?_,?_,hq⟩
  · simpa using hc 0 _ rfl
  · simpa using hc 1 _ rfl
theorem RdSlice.form {α : Type} {k : Nat} {R : Reader α} {S : Nat → Prop} {w : World} {v : Value} {l : List α} (h : RdSlice k R S w v l) : ∃ a cap,v = .slice a l.length cap ∧ l.length ≤ cap ∧ cap ≤ maxLen ∧ (a = none → cap = 0) :=
  let ⟨a,cap,hv,h1,h2,h0,_⟩ := h;⟨a,cap,hv,h1,h2,h0⟩
theorem RdInts.block {S : Nat → Prop} {w : World} {b : Nat} {t : TypeId} {fr : Nat × Nat} {l : List Int} {n : Nat} (hl : l.length = n) (h : w.heap[b]? = some (.cells (l.map (Value.int .i64)).toArray t fr)) (hS : S b) (hm : n ≤ maxLen) :
    RdInts S w (.slice (some ⟨b,0,none⟩) n n) l := by
  subst hl
  refine ⟨_,_,rfl,Nat.le_refl _,hm,(fun h => by cases h),fun i x hx => ⟨b,0,[.int .i64 x],rfl,hS,(Array.getElem?_eq_some_iff.1 h).1,rfl,?_,rfl⟩⟩
  intro j u hu
  match j,hu with
  | 0,hu =>
    have hu' : Value.int .i64 x = u := by simpa using hu
    subst hu'
    simp [World.cell?,h,hx]
theorem ret_int {k : IntKind} {a b : Int} (h : a = b) : Ending.returned (.int k a) = .returned (.int k b) := by rw [h]
theorem ret_bool {a b : Bool} (h : a = b) : Ending.returned (.bool a) = .returned (.bool b) := by rw [h]
theorem heap_new_at {w : World} {o : Obj} {n : Nat} (h : w.heap.size = n) : (w.alloc o).heap[n]? = some o := by subst h;exact heap_alloc_new w o
def Fresh (w w' : World) : Prop := ∃ q os,w' = Sort.grow (w.drewN q) os
theorem Fresh.refl (w : World) : Fresh w w := ⟨0,#[],by simp [Sort.grow,World.drewN]⟩
theorem Fresh.alloc {w w' : World} (h : Fresh w w') (o : Obj) : Fresh w (w'.alloc o) := by
  obtain ⟨q,os,rfl⟩ := h
  exact ⟨q,os ++ #[o],by rw [Sort.alloc_eq_grow,Sort.grow_grow]⟩
theorem Fresh.drew {w w' : World} (h : Fresh w w') : Fresh w w'.drew := by
  obtain ⟨q,os,rfl⟩ := h
  exact ⟨q + 1,os,rfl⟩
theorem Fresh.trans {a b c : World} (h : Fresh a b) (k : Fresh b c) : Fresh a c := by
  obtain ⟨q,os,rfl⟩ := h
  obtain ⟨q',os',rfl⟩ := k
  exact ⟨q + q',os ++ os',by simp [Sort.grow,World.drewN,Nat.add_assoc]⟩
theorem Fresh.below {w w' : World} (h : Fresh w w') : Below w.heap.size w w' := by
  obtain ⟨q,os,rfl⟩ := h
  exact ⟨rfl,rfl,rfl,by simp [Sort.grow,World.drewN],fun k hk => by simp [Sort.grow,World.drewN,Array.getElem?_append,hk]⟩
theorem Below.agree' {B : Nat} {w w' : World} (h : Below B w w') : Agree (fun b => b < B) w w' := ⟨h.size,fun b hb _ => h.block b hb⟩
theorem Below.agree {S : Nat → Prop} {w w' : World} (h : Below w.heap.size w w') : Agree S w w' := ⟨h.size,fun b _ hb => h.block b hb⟩
theorem Agree.alloc {S : Nat → Prop} {w w' : World} (h : Agree S w w') (o : Obj) : Agree S w (w'.alloc o) :=
  ⟨Nat.le_trans h.1 (by simp),fun b hb hlt => (Below.heap_alloc _ _ _ (Nat.lt_of_lt_of_le hlt h.1)).trans (h.2 b hb hlt)⟩
theorem Agree.refl (S : Nat → Prop) (w : World) : Agree S w w := ⟨Nat.le_refl _,fun _ _ _ => rfl⟩
theorem Agree.trans {S : Nat → Prop} {a b c : World} (h : Agree S a b) (k : Agree S b c) : Agree S a c :=
  ⟨Nat.le_trans h.1 k.1,fun i hi hlt => (k.2 i hi (Nat.lt_of_lt_of_le hlt h.1)).trans (h.2 i hi hlt)⟩
theorem cell_below {B : Nat} {w w' : World} (h : Below B w w') {c : Nat} (hc : c < B) (off : Nat) : w'.cell? ⟨c,off,none⟩ = w.cell? ⟨c,off,none⟩ := h.cell (p := ⟨c,off,none⟩) hc
end Go.Proofs.YtiiicochdidolaaGreat
namespace Go.Proofs.YtiiicochdidolaaGreat
def smallB (c : UInt8) : Bool := decide ((97 ≤ c.toNat ∧ c.toNat ≤ 122) ∨ (48 ≤ c.toNat ∧ c.toNat ≤ 57))
def upperB (c : UInt8) : Bool := decide (65 ≤ c.toNat ∧ c.toNat ≤ 90)
def signB (c : UInt8) : Bool := smallB c || upperB c || decide (c.toNat = 95)
def nameL (l : List UInt8) : Bool := decide (l.length ≤ 12) && (match l with | [] => false | c :: cs => smallB c && cs.all signB)
def varL (l : List UInt8) : Bool := decide (l.length ≤ 12) && (match l with | [] => false | c :: cs => upperB c && cs.all signB)
def named (s : Str) : Bool := nameL s.data.toList
def variableS (s : Str) : Bool := varL s.data.toList
theorem byte_cases (c : UInt8) :
    (((97 : Int) ≤ (c.toNat : Int) ∧ (c.toNat : Int) ≤ 122) ∧ smallB c = true ∧ upperB c = false ∧ signB c = true) ∨
    (((48 : Int) ≤ (c.toNat : Int) ∧ (c.toNat : Int) ≤ 57) ∧ smallB c = true ∧ upperB c = false ∧ signB c = true) ∨
    (((65 : Int) ≤ (c.toNat : Int) ∧ (c.toNat : Int) ≤ 90) ∧ smallB c = false ∧ upperB c = true ∧ signB c = true) ∨
    (((95 : Int) ≤ (c.toNat : Int) ∧ (c.toNat : Int) ≤ 95) ∧ smallB c = false ∧ upperB c = false ∧ signB c = true) ∨
    (((0 : Int) ≤ (c.toNat : Int) ∧ (c.toNat : Int) ≤ 47) ∧ smallB c = false ∧ upperB c = false ∧ signB c = false) ∨
    (((58 : Int) ≤ (c.toNat : Int) ∧ (c.toNat : Int) ≤ 64) ∧ smallB c = false ∧ upperB c = false ∧ signB c = false) ∨
    (((91 : Int) ≤ (c.toNat : Int) ∧ (c.toNat : Int) ≤ 94) ∧ smallB c = false ∧ upperB c = false ∧ signB c = false) ∨
    (((96 : Int) ≤ (c.toNat : Int) ∧ (c.toNat : Int) ≤ 96) ∧ smallB c = false ∧ upperB c = false ∧ signB c = false) ∨
    (((123 : Int) ≤ (c.toNat : Int) ∧ (c.toNat : Int) ≤ 255) ∧ smallB c = false ∧ upperB c = false ∧ signB c = false) := by
  have hlt : c.toNat < 256 := c.toNat_lt
  have S1 : ∀ p : Prop,[Decidable p] → p → decide p = true := fun p _ h => decide_eq_true h
  have S0 : ∀ p : Prop,[Decidable p] → ¬ p → decide p = false := fun p _ h => decide_eq_false h
  have G : ∀ a b d : Bool,smallB c = a → upperB c = b → decide (c.toNat = 95) = d → signB c = (a || b || d) := fun a b d h1 h2 h3 => by rw [signB,h1,h2,h3]
  by_cases h1 : c.toNat ≤ 47
  · have x := S0 _ (show ¬ ((97 ≤ c.toNat ∧ c.toNat ≤ 122) ∨ (48 ≤ c.toNat ∧ c.toNat ≤ 57)) by omega);have y := S0 _ (show ¬ (65 ≤ c.toNat ∧ c.toNat ≤ 90) by omega);have z := S0 _ (show ¬ c.toNat = 95 by omega)
    exact .inr (.inr (.inr (.inr (.inl ⟨⟨by omega,by omega⟩,x,y,G _ _ _ x y z⟩))))
  by_cases h2 : c.toNat ≤ 57
  · have x := S1 _ (show ((97 ≤ c.toNat ∧ c.toNat ≤ 122) ∨ (48 ≤ c.toNat ∧ c.toNat ≤ 57)) by omega);have y := S0 _ (show ¬ (65 ≤ c.toNat ∧ c.toNat ≤ 90) by omega);have z := S0 _ (show ¬ c.toNat = 95 by omega)
    exact .inr (.inl ⟨⟨by omega,by omega⟩,x,y,G _ _ _ x y z⟩)
  by_cases h3 : c.toNat ≤ 64
  · have x := S0 _ (show ¬ ((97 ≤ c.toNat ∧ c.toNat ≤ 122) ∨ (48 ≤ c.toNat ∧ c.toNat ≤ 57)) by omega);have y := S0 _ (show ¬ (65 ≤ c.toNat ∧ c.toNat ≤ 90) by omega);have z := S0 _ (show ¬ c.toNat = 95 by omega)
    exact .inr (.inr (.inr (.inr (.inr (.inl ⟨⟨by omega,by omega⟩,x,y,G _ _ _ x y z⟩)))))
  by_cases h4 : c.toNat ≤ 90
  · have x := S0 _ (show ¬ ((97 ≤ c.toNat ∧ c.toNat ≤ 122) ∨ (48 ≤ c.toNat ∧ c.toNat ≤ 57)) by omega);have y := S1 _ (show (65 ≤ c.toNat ∧ c.toNat ≤ 90) by omega);have z := S0 _ (show ¬ c.toNat = 95 by omega)
    exact .inr (.inr (.inl ⟨⟨by omega,by omega⟩,x,y,G _ _ _ x y z⟩))
  by_cases h5 : c.toNat ≤ 94
  · have x := S0 _ (show ¬ ((97 ≤ c.toNat ∧ c.toNat ≤ 122) ∨ (48 ≤ c.toNat ∧ c.toNat ≤ 57)) by omega);have y := S0 _ (show ¬ (65 ≤ c.toNat ∧ c.toNat ≤ 90) by omega);have z := S0 _ (show ¬ c.toNat = 95 by omega)
    exact .inr (.inr (.inr (.inr (.inr (.inr (.inl ⟨⟨by omega,by omega⟩,x,y,G _ _ _ x y z⟩))))))
  by_cases h6 : c.toNat ≤ 95
  · have x := S0 _ (show ¬ ((97 ≤ c.toNat ∧ c.toNat ≤ 122) ∨ (48 ≤ c.toNat ∧ c.toNat ≤ 57)) by omega);have y := S0 _ (show ¬ (65 ≤ c.toNat ∧ c.toNat ≤ 90) by omega);have z := S1 _ (show c.toNat = 95 by omega)
    exact .inr (.inr (.inr (.inl ⟨⟨by omega,by omega⟩,x,y,G _ _ _ x y z⟩)))
  by_cases h7 : c.toNat ≤ 96
  · have x := S0 _ (show ¬ ((97 ≤ c.toNat ∧ c.toNat ≤ 122) ∨ (48 ≤ c.toNat ∧ c.toNat ≤ 57)) by omega);have y := S0 _ (show ¬ (65 ≤ c.toNat ∧ c.toNat ≤ 90) by omega);have z := S0 _ (show ¬ c.toNat = 95 by omega)
    exact .inr (.inr (.inr (.inr (.inr (.inr (.inr (.inl ⟨⟨by omega,by omega⟩,x,y,G _ _ _ x y z⟩)))))))
  by_cases h8 : c.toNat ≤ 122
  · have x := S1 _ (show ((97 ≤ c.toNat ∧ c.toNat ≤ 122) ∨ (48 ≤ c.toNat ∧ c.toNat ≤ 57)) by omega);have y := S0 _ (show ¬ (65 ≤ c.toNat ∧ c.toNat ≤ 90) by omega);have z := S0 _ (show ¬ c.toNat = 95 by omega)
    exact .inl ⟨⟨by omega,by omega⟩,x,y,G _ _ _ x y z⟩
  · have x := S0 _ (show ¬ ((97 ≤ c.toNat ∧ c.toNat ≤ 122) ∨ (48 ≤ c.toNat ∧ c.toNat ≤ 57)) by omega);have y := S0 _ (show ¬ (65 ≤ c.toNat ∧ c.toNat ≤ 90) by omega);have z := S0 _ (show ¬ c.toNat = 95 by omega)
    exact .inr (.inr (.inr (.inr (.inr (.inr (.inr (.inr ⟨⟨by omega,by omega⟩,x,y,G _ _ _ x y z⟩)))))))
def okFrom : Nat → List UInt8 → Bool
  | _,[] => true
  | j,c :: cs => (smallB c || (decide (j ≠ 0) && signB c)) && okFrom (j + 1) cs
theorem okFrom_succ (j : Nat) : ∀ l,okFrom (j + 1) l = l.all signB
  | [] => rfl
  | c :: cs => by
    simp only [okFrom,List.all_cons,okFrom_succ (j + 1) cs]
    cases h : smallB c <;> simp [signB,h]
theorem nameL_okFrom (l : List UInt8) : nameL l = (decide (l.length ≤ 12) && (decide (1 ≤ l.length) && okFrom 0 l)) := by
  cases l with
  | nil => rfl
  | cons c cs => simp [nameL,okFrom,okFrom_succ]
theorem named_ok (s : Str) (h1 : 1 ≤ s.size) (h2 : s.size ≤ 12) : named s = okFrom 0 s.data.toList := by
  have e : s.data.toList.length = s.size := by rw [Array.length_toList];rfl
  rw [named,nameL_okFrom,e]
  simp [h1,h2]
theorem named_empty (s : Str) (h : s.size < 1) : named s = false := by
  have e : s.data.toList.length = s.size := by rw [Array.length_toList];rfl
  rw [named,nameL_okFrom,e]
  simp;omega
theorem named_long (s : Str) (h : 12 < s.size) : named s = false := by
  have e : s.data.toList.length = s.size := by rw [Array.length_toList];rfl
  rw [named,nameL_okFrom,e]
  simp;omega
theorem drop_bytes (s : Str) (k : Nat) (h : k < s.size) : s.data.toList.drop k = s[k] :: s.data.toList.drop (k + 1) := by
  have e : s.data.toList.length = s.size := by rw [Array.length_toList];rfl
  rw [List.drop_eq_getElem_cons (by omega)]
  rfl
theorem drop_bytes_end (s : Str) (k : Nat) (h : s.size ≤ k) : s.data.toList.drop k = [] := by
  have e : s.data.toList.length = s.size := by rw [Array.length_toList];rfl
  exact List.drop_eq_nil_of_le (by omega)
theorem okFrom_here {s : Str} {k : Nat} (h : k < s.size) (hr : okFrom 0 s.data.toList = okFrom k (s.data.toList.drop k)) (hc : smallB s[k] = true ∨ (k ≠ 0 ∧ signB s[k] = true)) :
    okFrom 0 s.data.toList = okFrom (k + 1) (s.data.toList.drop (k + 1)) := by
  rw [hr,drop_bytes s k h,okFrom]
  rcases hc with hc | ⟨h0,hc⟩ <;> simp [*]
theorem okFrom_bad {s : Str} {k : Nat} (h : k < s.size) (hr : okFrom 0 s.data.toList = okFrom k (s.data.toList.drop k)) (hs : smallB s[k] = false) (hc : k = 0 ∨ signB s[k] = false) :
    okFrom 0 s.data.toList = false := by
  rw [hr,drop_bytes s k h,okFrom,hs]
  rcases hc with hc | hc
  · rw [decide_eq_false (by simpa using hc)];rfl
  · rw [hc];simp
end Go.Proofs.YtiiicochdidolaaGreat
namespace Go.Proofs.YtiiicochdidolaaGreat
open Go.RowKit
set_option maxHeartbeats 2000000 in
theorem namedCalls (s : Str) (w : World) : Calls Tryz.prog 109 #[.string s] w fun e w' => e = .returned (.bool (named s)) ∧ w = w' := by
  by_cases h0 : s.size < 1
  · rw [named_empty s h0]
    go_enter Tryz.func109,Tryz.ntmps109
    go_wp2
    go_ret
    exact ⟨rfl,rfl⟩
  · by_cases h12 : 12 < s.size
    · rw [named_long s h12]
      have hb : ¬ ((s.size : Int) < 1) := by omega
      go_enter Tryz.func109,Tryz.ntmps109
      go_wp2
      go_ret
      exact ⟨rfl,rfl⟩
    · rw [named_ok s (by omega) (by omega)]
      have hb : ¬ ((s.size : Int) < 1) := by omega
      have hb2 : ¬ ((12 : Int) < s.size) := by omega
      go_enter Tryz.func109,Tryz.ntmps109
      go_wp2
      go_loop [16,3,4,5] (fun i _ _ _ => ∃ k : Nat,k ≤ s.size ∧ i = .int .i64 k ∧ okFrom 0 s.data.toList = okFrom k (s.data.toList.drop k)) (fun i _ _ _ => s.size - (intOf i).toNat)
      case atStart => exact ⟨0,Nat.zero_le _,rfl,rfl⟩
      case round =>
        obtain ⟨k,hk,rfl,hr⟩ := hrel
        have HR := Lib.hid hr
        clear hr
        by_cases hlt : k < s.size
        · by_cases hk0 : k = 0
          · subst hk0
            rcases byte_cases s[0] with ⟨⟨b1,b2⟩,q1,q2,q3⟩ | ⟨⟨b1,b2⟩,q1,q2,q3⟩ | ⟨⟨b1,b2⟩,q1,q2,q3⟩ | ⟨⟨b1,b2⟩,q1,q2,q3⟩ | ⟨⟨b1,b2⟩,q1,q2,q3⟩ | ⟨⟨b1,b2⟩,q1,q2,q3⟩ | ⟨⟨b1,b2⟩,q1,q2,q3⟩ | ⟨⟨b1,b2⟩,q1,q2,q3⟩ | ⟨⟨b1,b2⟩,q1,q2,q3⟩
            case' inl | inr.inl =>
              have Q := Lib.hid (okFrom_here hlt HR.out (.inl q1))
              clear q1 q2 q3
              go_wp2
              go_round
              case rel => exact ⟨1,by omega,by go_num,Q.out⟩
              case measure => simp [intOf];omega
            all_goals
              have Q := Lib.hid (okFrom_bad hlt HR.out q1 (.inl rfl))
              clear q1 q2 q3
              try have z1 : decide ((s[0].toNat : Int) ≤ 57) = false := decide_eq_false (by omega)
              try have z2 : decide ((s[0].toNat : Int) ≤ 122) = false := decide_eq_false (by omega)
              try have z3 : ((s[0].toNat : Int) != 95) = true := bne_iff_ne.2 (by omega)
              try have z4 : ((s[0].toNat : Int) != 95) = false := bne_eq_false_iff_eq.2 (by omega)
              go_wp2
              go_ret
              exact ⟨ret_bool Q.out.symm,rfl⟩
          · have hkb : ((k : Int) == 0) = false := by simpa using hk0
            rcases byte_cases s[k] with ⟨⟨b1,b2⟩,q1,q2,q3⟩ | ⟨⟨b1,b2⟩,q1,q2,q3⟩ | ⟨⟨b1,b2⟩,q1,q2,q3⟩ | ⟨⟨b1,b2⟩,q1,q2,q3⟩ | ⟨⟨b1,b2⟩,q1,q2,q3⟩ | ⟨⟨b1,b2⟩,q1,q2,q3⟩ | ⟨⟨b1,b2⟩,q1,q2,q3⟩ | ⟨⟨b1,b2⟩,q1,q2,q3⟩ | ⟨⟨b1,b2⟩,q1,q2,q3⟩
            case' inl | inr.inl | inr.inr.inl | inr.inr.inr.inl =>
              have Q := Lib.hid (okFrom_here hlt HR.out (.inr ⟨hk0,q3⟩))
              clear q1 q2 q3 hk0
              try have z1 : decide ((s[k].toNat : Int) ≤ 57) = false := decide_eq_false (by omega)
              try have z2 : decide ((s[k].toNat : Int) ≤ 122) = false := decide_eq_false (by omega)
              try have z3 : ((s[k].toNat : Int) != 95) = true := bne_iff_ne.2 (by omega)
              try have z4 : ((s[k].toNat : Int) != 95) = false := bne_eq_false_iff_eq.2 (by omega)
              go_wp2
              go_round
              case rel => exact ⟨k + 1,by omega,by go_num,Q.out⟩
              case measure => simp [intOf];omega
            all_goals
              have Q := Lib.hid (okFrom_bad hlt HR.out q1 (.inr q3))
              clear q1 q2 q3 hk0
              try have z1 : decide ((s[k].toNat : Int) ≤ 57) = false := decide_eq_false (by omega)
              try have z2 : decide ((s[k].toNat : Int) ≤ 122) = false := decide_eq_false (by omega)
              try have z3 : ((s[k].toNat : Int) != 95) = true := bne_iff_ne.2 (by omega)
              try have z4 : ((s[k].toNat : Int) != 95) = false := bne_eq_false_iff_eq.2 (by omega)
              go_wp2
              go_ret
              exact ⟨ret_bool Q.out.symm,rfl⟩
        · go_wp2
          go_ret
          refine ⟨?_,rfl⟩
          rw [HR.out,drop_bytes_end s k (by omega)]
          rfl
end Go.Proofs.YtiiicochdidolaaGreat
namespace Go.Proofs.YtiiicochdidolaaGreat
open Go.RowKit
structure RowT (P : Program) (t e : TypeId) (k : Nat) : Prop where
  ht : P.underlying t = some (.slice e)
  ex : ∃ i z,P.info? e = some i ∧ i.zero = some z ∧ i.size = k ∧ i.bytes ≤ 128 ∧ z.cells.size = k
  pos : 0 < k
theorem RowT.mk' {P : Program} {t e : TypeId} {k b : Nat} {z : Value} (ht : P.underlying t = some (.slice e)) (hi : (P.info? e).map (fun i => (i.zero,i.size,i.bytes)) = some (some z,k,b)) (hb : b ≤ 128) (hz : z.cells.size = k) (hk : 0 < k) : RowT P t e k := by
  obtain ⟨i,h1,h2,h3,h4⟩ := info_parts hi
  exact ⟨ht,⟨i,z,h1,h2,h3,by omega,hz⟩,hk⟩
def Owned {α : Type} (k : Nat) (R : Reader α) (B : Nat) (e : TypeId) (S : Nat → Prop) (w : World) (v : Value) (l : List α) : Prop :=
  ∃ css : List (List Value),css.length = l.length ∧ (∀ cs ∈ css,cs.length = k) ∧ w.ownsRow B e k v l.length css.flatten ∧
    ∀ (i : Nat) (cs : List Value) (x : α),css[i]? = some cs → l[i]? = some x → R (fun b => S b ∧ some b ≠ v.ownBlock) w cs x
theorem flatten_get {k : Nat} : ∀ (css : List (List Value)),(∀ cs ∈ css,cs.length = k) → ∀ i cs j u,css[i]? = some cs → cs[j]? = some u → css.flatten[i * k + j]? = some u
  | [],_,i,cs,j,u,h,_ => by simp at h
  | c :: css,hk,0,cs,j,u,h,hu => by
    obtain rfl : c = cs := by simpa using h
    have hj : j < c.length := (List.getElem?_eq_some_iff.1 hu).1
    rw [List.flatten_cons,Nat.zero_mul,Nat.zero_add,List.getElem?_append_left hj]
    exact hu
  | c :: css,hk,i + 1,cs,j,u,h,hu => by
    have hc : c.length = k := hk c (by simp)
    rw [List.flatten_cons,List.getElem?_append_right (by rw [hc,Nat.add_mul];omega),hc,show (i + 1) * k + j - k = i * k + j by rw [Nat.add_mul];omega]
    exact flatten_get css (fun c hc => hk c (by simp [hc])) i cs j u (by simpa using h) hu
section
variable {α : Type} {k : Nat} {R : Reader α} {B : Nat} {e : TypeId} {S : Nat → Prop} {w w' : World} {v v' : Value} {l : List α}
theorem Owned.nil : Owned k R B e S w (.slice none 0 0) ([] : List α) :=
  ⟨[],rfl,by simp,World.ownsRow_nil w B e k,by simp⟩
theorem Owned.made {cur : Array Value} {cap : Nat} (hb : B ≤ w.heap.size) (hm : cap ≤ maxLen) (hs : cur.size = cap * k) :
    Owned k R B e S (w.alloc (.cells cur e)) (.slice (some ⟨w.heap.size,0,none⟩) 0 cap) ([] : List α) :=
  ⟨[],rfl,by simp,World.ownsRow_made w cur cap hb hm hs,by simp⟩
theorem Owned.row_lt (h : Owned k R B e S w v l) {g : Nat} (hg : v.ownBlock = some g) : B ≤ g ∧ g < w.heap.size := by
  obtain ⟨css,_,_,ho,_⟩ := h
  exact ho.lt g hg
theorem Owned.keep (hR : Steady R) (h : Owned k R B e S w v l) (ha : Agree S w w') (hrow : ∀ g,v.ownBlock = some g → w'.heap[g]? = w.heap[g]?) : Owned k R B e S w' v l := by
  obtain ⟨css,h1,h2,ho,h3⟩ := h
  refine ⟨css,h1,h2,⟨ho.1,?_⟩,fun i cs x hc hx => hR.agree ⟨ha.1,fun b hb hlt => ha.2 b hb.1 hlt⟩ (h3 i cs x hc hx)⟩
  rcases ho.2 with hn | ⟨g,cap,cur,rfl,hb,hgg,rest⟩
  · exact .inl hn
  · exact .inr ⟨g,cap,cur,rfl,hb,by rw [hrow g rfl];exact hgg,rest⟩
theorem Owned.below (hR : Steady R) (h : Owned k R B e S w v l) (hb : Below w.heap.size w w') : Owned k R B e S w' v l :=
  h.keep hR (Below.agree hb) fun g hg => hb.block g (h.row_lt hg).2
theorem Owned.alloc (hR : Steady R) (h : Owned k R B e S w v l) (o : Obj) : Owned k R B e S (w.alloc o) v l :=
  h.below hR ((Below.refl _ _).alloc (Nat.le_refl _) o)
theorem Owned.drew (hR : Steady R) (h : Owned k R B e S w v l) : Owned k R B e S w.drew v l := h.below hR (Below.refl _ _).drew
theorem Owned.setCell (hR : Steady R) (h : Owned k R B e S w v l) {p : Addr} (hp : ¬ S p.block) (ho : v.ownBlock ≠ some p.block) (u : Value) : Owned k R B e S (w.setCell p u) v l :=
  h.keep hR ⟨by simp [World.setCell],fun b hb _ => Below.heap_setCell _ _ _ _ (fun e => hp (by rw [← e];exact hb))⟩ fun g hg => Below.heap_setCell _ _ _ _ (fun e => ho (by rw [hg,e]))
theorem Owned.moreS (hR : Steady R) {S' : Nat → Prop} (h : Owned k R B e S w v l) (hs : ∀ b,S b → b < w.heap.size → S' b) : Owned k R B e S' w v l := by
  obtain ⟨css,h1,h2,ho,h3⟩ := h
  exact ⟨css,h1,h2,ho,fun i cs x hc hx => hR.more (fun b hb hlt => ⟨hs b hb.1 hlt,hb.2⟩) (h3 i cs x hc hx)⟩
theorem Owned.read (hR : Steady R) (h : Owned k R B e S w v l) : RdSlice k R (fun b => S b ∨ B ≤ b) w v l := by
  obtain ⟨css,h1,h2,ho,h3⟩ := h
  have hmore : ∀ {cs x},R (fun b => S b ∧ some b ≠ v.ownBlock) w cs x → R (fun b => S b ∨ B ≤ b) w cs x := fun hr => hR.more (fun b hb _ => .inl hb.1) hr
  rcases ho.2 with ⟨rfl,h0⟩ | ⟨g,cap,cur,rfl,hb,hgg,hnc,hcm,hcs,htake⟩
  · refine ⟨none,0,by rw [h0],by omega,Nat.zero_le _,fun _ => rfl,fun i x hx => ?_⟩
    have := (List.getElem?_eq_some_iff.1 hx).1
    omega
  · refine ⟨some ⟨g,0,none⟩,cap,rfl,hnc,hcm,(fun h => by cases h),fun i x hx => ?_⟩
    have hi := (List.getElem?_eq_some_iff.1 hx).1
    obtain ⟨cs,hcss⟩ : ∃ cs,css[i]? = some cs := ⟨_,List.getElem?_eq_getElem (by omega)⟩
    refine ⟨g,0,cs,rfl,.inr hb,(Array.getElem?_eq_some_iff.1 hgg).1,h2 cs (List.mem_of_getElem? hcss),fun j u hu => ?_,hmore (h3 i cs x hcss hx)⟩
    have := ho.cells (g := g) rfl (i * k + j) u (flatten_get css h2 i cs j u hcss hu)
    have hadd : (⟨g,0,none⟩ : Addr).add (i * k + j) = ⟨g,0 + i * k + j,none⟩ := by unfold Addr.add;split <;> simp_all
    rwa [hadd] at this
theorem Owned.snoc (hR : Steady R) (h : Owned k R B e S w v l) {cs : List Value} {x : α} (hk : cs.length = k) (hr : R (fun b => S b ∧ some b ≠ v.ownBlock) w cs x)
    (hown : ∀ xs,w.ownsRow B e k v l.length xs → w'.ownsRow B e k v' (l.length + 1) (xs ++ cs)) (hg : w.grownBy w' v.ownBlock) (hat : v'.ownBlock = v.ownBlock ∨ v'.ownBlock = some w.heap.size) :
    Owned k R B e S w' v' (l ++ [x]) := by
  obtain ⟨css,h1,h2,ho,h3⟩ := h
  have hmore : ∀ {cs x},R (fun b => S b ∧ some b ≠ v.ownBlock) w cs x → R (fun b => S b ∧ some b ≠ v'.ownBlock) w' cs x := fun {cs x} hr => by
    have r1 : R (fun b => (S b ∧ some b ≠ v.ownBlock) ∧ b < w.heap.size) w cs x := hR.more (fun b hb hlt => ⟨hb,hlt⟩) hr
    have r2 := hR.agree (w' := w') ⟨hg.size,fun b hb hlt => hg.block b hlt hb.1.2⟩ r1
    refine hR.more (fun b hb hlt => ⟨hb.1.1,fun e => ?_⟩) r2
    rcases hat with hat | hat
    · exact hb.1.2 (e.trans hat)
    · have : b = w.heap.size := Option.some.inj (e.trans hat)
      have := hb.2
      omega
  refine ⟨css ++ [cs],by simp [h1],?_,?_,?_⟩
  · intro c hc
    rcases List.mem_append.1 hc with hc | hc
    · exact h2 c hc
    · obtain rfl := List.mem_singleton.1 hc;exact hk
  · have := hown _ ho
    simpa using this
  · intro i c y hc hy
    by_cases hi : i < css.length
    · rw [List.getElem?_append_left hi] at hc
      rw [List.getElem?_append_left (by omega)] at hy
      exact hmore (h3 i c y hc hy)
    · rw [List.getElem?_append_right (by omega)] at hc
      rw [List.getElem?_append_right (by omega)] at hy
      have hi0 : i - css.length = 0 := by
        have := (List.getElem?_eq_some_iff.1 hc).1
        simp at this
        omega
      rw [hi0] at hc
      rw [← h1,hi0] at hy
      obtain rfl : cs = c := by simpa using hc
      obtain rfl : x = y := by simpa using hy
      exact hmore hr
theorem Owned.append (hR : Steady R) (h : Owned k R B e S w v l) {css2 : List (List Value)} {l2 : List α} (hl : css2.length = l2.length) (hk : ∀ cs ∈ css2,cs.length = k)
    (hr : ∀ (i : Nat) (cs : List Value) (x : α),css2[i]? = some cs → l2[i]? = some x → R (fun b => S b ∧ some b ≠ v.ownBlock) w cs x)
    (hown : ∀ xs,w.ownsRow B e k v l.length xs → w'.ownsRow B e k v' (l.length + l2.length) (xs ++ css2.flatten)) (hg : w.grownBy w' v.ownBlock) (hat : v'.ownBlock = v.ownBlock ∨ v'.ownBlock = some w.heap.size) :
    Owned k R B e S w' v' (l ++ l2) := by
  obtain ⟨css,h1,h2,ho,h3⟩ := h
  have hmore : ∀ {cs x},R (fun b => S b ∧ some b ≠ v.ownBlock) w cs x → R (fun b => S b ∧ some b ≠ v'.ownBlock) w' cs x := fun {cs x} hr => by
    have r1 : R (fun b => (S b ∧ some b ≠ v.ownBlock) ∧ b < w.heap.size) w cs x := hR.more (fun b hb hlt => ⟨hb,hlt⟩) hr
    have r2 := hR.agree (w' := w') ⟨hg.size,fun b hb hlt => hg.block b hlt hb.1.2⟩ r1
    refine hR.more (fun b hb hlt => ⟨hb.1.1,fun e => ?_⟩) r2
    rcases hat with hat | hat
    · exact hb.1.2 (e.trans hat)
    · have : b = w.heap.size := Option.some.inj (e.trans hat)
      have := hb.2
      omega
  refine ⟨css ++ css2,by simp [h1,hl],?_,?_,?_⟩
  · intro c hc
    rcases List.mem_append.1 hc with hc | hc
    · exact h2 c hc
    · exact hk c hc
  · have := hown _ ho
    simpa using this
  · intro i c y hc hy
    by_cases hi : i < css.length
    · rw [List.getElem?_append_left hi] at hc
      rw [List.getElem?_append_left (by omega)] at hy
      exact hmore (h3 i c y hc hy)
    · rw [List.getElem?_append_right (by omega)] at hc
      rw [List.getElem?_append_right (by omega)] at hy
      rw [← h1] at hy
      exact hmore (hr _ c y hc hy)
end
section
variable {P : Program} {w : World} {α : Type} {k : Nat} {R : Reader α} {B : Nat} {e : TypeId} {S : Nat → Prop}
theorem run_append_one (hR : Steady R) {t ty : TypeId} (T : RowT P t e k) {v : Value} {l : List α} (hown : Owned k R B e S w v l) (bx c : Nat) (cs : Array Value) (te : TypeId) (fr : Nat × Nat) (x : α)
    (hblk : w.heap[bx]? = some (.cells cs te fr)) (hk : cs.size = k) (h1 : ∀ u ∈ cs.toList,u.oneCell' = true) (hr : R (fun b => S b ∧ some b ≠ v.ownBlock) w cs.toList x) (hlen : l.length < 1099511627776) (hbase : B ≤ w.heap.size) :
    ∃ v' w',(Builtin.append_ #[t,t] ty #[v,.slice (some ⟨bx,0,none⟩) 1 c]).run P w = .ok v' w' ∧ Owned k R B e S w' v' (l ++ [x]) ∧ w.grownBy w' v.ownBlock ∧ (v'.ownBlock = v.ownBlock ∨ v'.ownBlock = some w.heap.size) := by
  obtain ⟨i,z,hi,hz,hsize,hby,hzs⟩ := T.ex
  have h := hown
  obtain ⟨css,_,_,ho,_⟩ := h
  obtain ⟨v',w',hrun,h2,h3,_,h5⟩ := run_append_own_at (P := P) w B t ty e i z k i.bytes T.ht hi hz hsize rfl hzs T.pos v l.length css.flatten ho ⟨bx,0,none⟩ 1 c cs.toList (by simp [hk])
    (World.news_of_block hblk) h1 (by unfold maxLen;omega) (by have : (l.length + 1) * i.bytes ≤ 1099511627776 * 128 := Nat.mul_le_mul (by omega) hby;omega) hbase
  refine ⟨v',w',hrun,?_,h3,h5⟩
  refine hown.snoc hR (by simpa using hk) hr (fun xs hxs => ?_) h3 h5
  have e1 : xs = css.flatten := by
    rcases hxs.2 with ⟨hv,hn⟩ | ⟨g,cap,cur,hv,hb,hg,_,_,_,ht⟩
    · have a1 : xs = [] := List.eq_nil_of_length_eq_zero (by rw [hxs.1,hn,Nat.zero_mul])
      have a2 : css.flatten = [] := List.eq_nil_of_length_eq_zero (by rw [ho.1,hn,Nat.zero_mul])
      rw [a1,a2]
    · rcases ho.2 with ⟨hv',hn⟩ | ⟨g',cap',cur',hv',hb',hg',_,_,_,ht'⟩
      · have a1 : xs = [] := List.eq_nil_of_length_eq_zero (by rw [hxs.1,hn,Nat.zero_mul])
        have a2 : css.flatten = [] := List.eq_nil_of_length_eq_zero (by rw [ho.1,hn,Nat.zero_mul])
        rw [a1,a2]
      · rw [hv] at hv'
        injection hv' with q1 q2 q3
        injection q1 with q1
        injection q1 with q1 _ _
        subst q1
        rw [hg] at hg'
        injection hg' with q
        injection q with q _ _
        subst q
        rw [← ht,← ht']
  rw [e1]
  exact h2
theorem Owned.ext_row {v : Value} {n : Nat} {xs ys : List Value} (hx : w.ownsRow B e k v n xs) (hy : w.ownsRow B e k v n ys) : xs = ys := by
  rcases hx.2 with ⟨hv,hn⟩ | ⟨g,cap,cur,hv,hb,hg,_,_,_,ht⟩
  · have a1 : xs = [] := List.eq_nil_of_length_eq_zero (by rw [hx.1,hn,Nat.zero_mul])
    have a2 : ys = [] := List.eq_nil_of_length_eq_zero (by rw [hy.1,hn,Nat.zero_mul])
    rw [a1,a2]
  · rcases hy.2 with ⟨hv',hn⟩ | ⟨g',cap',cur',hv',hb',hg',_,_,_,ht'⟩
    · have a1 : xs = [] := List.eq_nil_of_length_eq_zero (by rw [hx.1,hn,Nat.zero_mul])
      have a2 : ys = [] := List.eq_nil_of_length_eq_zero (by rw [hy.1,hn,Nat.zero_mul])
      rw [a1,a2]
    · rw [hv] at hv'
      injection hv' with q1 q2 q3
      injection q1 with q1
      injection q1 with q1 _ _
      subst q1
      rw [hg] at hg'
      injection hg' with q
      injection q with q _ _
      subst q
      rw [← ht,← ht']
theorem wpList_append_one {ops : Array Oper} {rest : List Oper} {o : Oper} {a : Act} {Q : Exit → Act → World → Prop} (hgd : o.guard = none) (s x : Operand) (t : TypeId)
    (ho : o.op = .call { callee := .builtin .append,args := #[s,x],argTypes := #[t,t] }) (hR : Steady R) (T : RowT P t e k) (v : Value) (l : List α) (hs : a.eval s = v) (hown : Owned k R B e S w v l)
    (bx c : Nat) (cs : Array Value) (te : TypeId) (fr : Nat × Nat) (y : α) (hx : a.eval x = .slice (some ⟨bx,0,none⟩) 1 c) (hblk : w.heap[bx]? = some (.cells cs te fr)) (hk : cs.size = k) (h1 : ∀ u ∈ cs.toList,u.oneCell' = true)
    (hr : R (fun b => S b ∧ some b ≠ v.ownBlock) w cs.toList y) (hlen : l.length < 1099511627776) (hbase : B ≤ w.heap.size)
    (h : ∀ v' w',Owned k R B e S w' v' (l ++ [y]) → w.grownBy w' v.ownBlock → (v'.ownBlock = v.ownBlock ∨ v'.ownBlock = some w.heap.size) → wpList P ops Q rest (a.put o.dst v') w') : wpList P ops Q (o :: rest) a w :=
  wpList_plain hgd fun K hK => by
    obtain ⟨v',w',hrun,h2,h3,h4⟩ := run_append_one (P := P) (ty := o.type) hR T hown bx c cs te fr y hblk hk h1 hr hlen hbase
    unfold Oper.wp execOp
    simp only [ho,resolve,invoke,builtin,Sem.run_bind,Sem.run_pure,Result.andThen_ok,List.map_toArray,List.map_cons,List.map_nil,hs,hx,hrun]
    exact hK _ _ (h v' w' h2 h3 h4)
theorem step_append_one {ops : Array Oper} {o : Oper} {a : Act} {K : Act → World → Prop} {Q : Exit → Act → World → Prop} {E : Prop} (hgd : o.guard = none) (s x : Operand) (t : TypeId)
    (ho : o.op = .call { callee := .builtin .append,args := #[s,x],argTypes := #[t,t] }) (hR : Steady R) (T : RowT P t e k) (v : Value) (l : List α) (hs : a.eval s = v) (hown : Owned k R B e S w v l)
    (bx c : Nat) (cs : Array Value) (te : TypeId) (fr : Nat × Nat) (y : α) (hx : a.eval x = .slice (some ⟨bx,0,none⟩) 1 c) (hblk : w.heap[bx]? = some (.cells cs te fr)) (hk : cs.size = k) (h1 : ∀ u ∈ cs.toList,u.oneCell' = true)
    (hr : R (fun b => S b ∧ some b ≠ v.ownBlock) w cs.toList y) (hlen : l.length < 1099511627776) (hbase : B ≤ w.heap.size)
    (h : ∀ v' w',Owned k R B e S w' v' (l ++ [y]) → w.grownBy w' v.ownBlock → (v'.ownBlock = v.ownBlock ∨ v'.ownBlock = some w.heap.size) → K (a.put o.dst v') w') :
    if Region.wanted o (yielded ops a.tmps) = true then Oper.wp P o a w K Q else E := by
  have hw : Region.wanted o (yielded ops a.tmps) = true := by simp [Region.wanted,hgd]
  rw [if_pos hw]
  obtain ⟨v',w',hrun,h2,h3,h4⟩ := run_append_one (P := P) (ty := o.type) hR T hown bx c cs te fr y hblk hk h1 hr hlen hbase
  unfold Oper.wp execOp
  simp only [ho,resolve,invoke,builtin,Sem.run_bind,Sem.run_pure,Result.andThen_ok,List.map_toArray,List.map_cons,List.map_nil,hs,hx,hrun]
  exact h v' w' h2 h3 h4
theorem run_append_many (hR : Steady R) (hcell : ∀ {S w cs x},R S w cs x → ∀ u ∈ cs,u.oneCell' = true) {t ty : TypeId} (T : RowT P t e k) {v : Value} {l : List α} (hown : Owned k R B e S w v l) {v2 : Value} {l2 : List α}
    {S2 : Nat → Prop} (h2 : RdSlice k R S2 w v2 l2) (hm : ∀ cs x,R S2 w cs x → R (fun b => S b ∧ some b ≠ v.ownBlock) w cs x) (hlen : l.length + l2.length < 1099511627776) (hbase : B ≤ w.heap.size) :
    ∃ v' w',(Builtin.append_ #[t,t] ty #[v,v2]).run P w = .ok v' w' ∧ Owned k R B e S w' v' (l ++ l2) ∧ w.grownBy w' v.ownBlock ∧ (v'.ownBlock = v.ownBlock ∨ v'.ownBlock = some w.heap.size) := by
  obtain ⟨i,z,hi,hz,hsize,hby,hzs⟩ := T.ex
  have h := hown
  obtain ⟨css,_,_,ho,_⟩ := h
  obtain ⟨a2,c2,rfl,hl2,hc2,hnil,hel⟩ := h2
  cases a2 with
  | none =>
    have hl : l2 = [] := by
      cases l2 with
      | nil => rfl
      | cons x r => obtain ⟨b,off,cs,ha,_⟩ := hel 0 x rfl;cases ha
    subst hl
    obtain rfl := hnil rfl
    refine ⟨v,w,run_append_owned_none (P := P) (w := w) B t ty e i k T.ht hi v l.length css.flatten ho,by simpa using hown,⟨rfl,rfl,rfl,Nat.le_refl _,fun _ _ _ => rfl⟩,.inl rfl⟩
  | some a2 =>
    have hpick : ∀ j,j < l2.length → ∃ b off cs,a2 = ⟨b,off,none⟩ ∧ cs.length = k ∧ (∀ q u,cs[q]? = some u → w.cell? ⟨b,off + j * k + q,none⟩ = some u) ∧ ∃ x,l2[j]? = some x ∧ R (fun b => S b ∧ some b ≠ v.ownBlock) w cs x := fun j hj => by
      obtain ⟨b,off,cs,ha,_,_,hk,hc,hr⟩ := hel j l2[j] (List.getElem?_eq_getElem hj)
      exact ⟨b,off,cs,Option.some.inj ha,hk,hc,_,List.getElem?_eq_getElem hj,hm _ _ hr⟩
    obtain ⟨css2,hlen2,hk2,hcells,hr2⟩ : ∃ css2 : List (List Value),css2.length = l2.length ∧ (∀ cs ∈ css2,cs.length = k) ∧ (∀ (j : Nat) (u : Value),css2.flatten[j]? = some u → w.cell? (a2.add j) = some u) ∧
        (∀ (j : Nat) (cs : List Value) (x : α),css2[j]? = some cs → l2[j]? = some x → R (fun b => S b ∧ some b ≠ v.ownBlock) w cs x) := by
      have main : ∀ n,n ≤ l2.length → ∃ css2 : List (List Value),css2.length = n ∧ (∀ cs ∈ css2,cs.length = k) ∧ (∀ (j : Nat) (u : Value),css2.flatten[j]? = some u → w.cell? (a2.add j) = some u) ∧
          (∀ (j : Nat) (cs : List Value) (x : α),css2[j]? = some cs → l2[j]? = some x → R (fun b => S b ∧ some b ≠ v.ownBlock) w cs x) := by
        intro n
        induction n with
        | zero => exact fun _ => ⟨[],rfl,by simp,by simp,by simp⟩
        | succ n ih =>
          intro hn
          obtain ⟨css2,g1,g2,g3,g4⟩ := ih (by omega)
          obtain ⟨b,off,cs,ha,hk,hc,x,hx,hr⟩ := hpick n (by omega)
          have hfl : css2.flatten.length = n * k := by
            rw [← g1]
            clear g3 g4 g1 ih
            induction css2 with
            | nil => simp
            | cons c r ih => rw [List.flatten_cons,List.length_append,ih (fun c hc => g2 c (by simp [hc])),g2 c (by simp),List.length_cons,Nat.add_mul];omega
          refine ⟨css2 ++ [cs],by simp [g1],?_,?_,?_⟩
          · intro c hcm
            rcases List.mem_append.1 hcm with hcm | hcm
            · exact g2 c hcm
            · obtain rfl := List.mem_singleton.1 hcm;exact hk
          · intro j u hu
            rw [List.flatten_append,List.flatten_singleton] at hu
            by_cases hj : j < css2.flatten.length
            · rw [List.getElem?_append_left hj] at hu;exact g3 j u hu
            · rw [List.getElem?_append_right (by omega)] at hu
              have := hc _ _ hu
              rw [ha]
              have hadd : (⟨b,off,none⟩ : Addr).add j = ⟨b,off + n * k + (j - css2.flatten.length),none⟩ := by
                unfold Addr.add
                split
                · rename_i h0
                  subst h0
                  simp only [Addr.mk.injEq,and_true,true_and];omega
                · simp only [Addr.mk.injEq,and_true,true_and];omega
              rw [hadd]
              exact this
          · intro j c y hcj hy
            by_cases hj : j < css2.length
            · rw [List.getElem?_append_left hj] at hcj;exact g4 j c y hcj hy
            · rw [List.getElem?_append_right (by omega)] at hcj
              have hj0 : j - css2.length = 0 := by
                have := (List.getElem?_eq_some_iff.1 hcj).1
                simp at this;omega
              rw [hj0] at hcj
              obtain rfl : cs = c := by simpa using hcj
              have : j = n := by omega
              subst this
              rw [hx] at hy
              obtain rfl := Option.some.inj hy
              exact hr
      exact main l2.length (Nat.le_refl _)
    have hone : ∀ u ∈ css2.flatten,u.oneCell' = true := by
      intro u hu
      obtain ⟨cs,hcs,huc⟩ := List.mem_flatten.1 hu
      obtain ⟨j,hj⟩ := List.mem_iff_getElem?.1 hcs
      have hjl : j < l2.length := by have := (List.getElem?_eq_some_iff.1 hj).1;omega
      exact hcell (hr2 j cs l2[j] hj (List.getElem?_eq_getElem hjl)) u huc
    have hfl : css2.flatten.length = l2.length * k := by
      rw [← hlen2]
      clear hcells hr2 hone hlen2
      induction css2 with
      | nil => simp
      | cons c r ih => rw [List.flatten_cons,List.length_append,ih (fun c hc => hk2 c (by simp [hc])),hk2 c (by simp),List.length_cons,Nat.add_mul];omega
    obtain ⟨v',w',hrun,q2,q3,_,q5⟩ := run_append_own_at (P := P) w B t ty e i z k i.bytes T.ht hi hz hsize rfl hzs T.pos v l.length css.flatten ho a2 l2.length c2 css2.flatten hfl hcells hone
      (by unfold maxLen;omega) (by have : (l.length + l2.length) * i.bytes ≤ 1099511627776 * 128 := Nat.mul_le_mul (by omega) hby;omega) hbase
    exact ⟨v',w',hrun,hown.append hR hlen2 hk2 hr2 (fun xs hxs => by rw [Owned.ext_row hxs ho];exact q2) q3 q5,q3,q5⟩
theorem wpList_append_many {ops : Array Oper} {rest : List Oper} {o : Oper} {a : Act} {Q : Exit → Act → World → Prop} (hgd : o.guard = none) (s x : Operand) (t : TypeId)
    (ho : o.op = .call { callee := .builtin .append,args := #[s,x],argTypes := #[t,t] }) (hR : Steady R) (hcell : ∀ {S w cs x},R S w cs x → ∀ u ∈ cs,u.oneCell' = true) (T : RowT P t e k) (v : Value) (l : List α) (hs : a.eval s = v) (hown : Owned k R B e S w v l)
    (v2 : Value) (l2 : List α) (hx : a.eval x = v2) {S2 : Nat → Prop} (h2 : RdSlice k R S2 w v2 l2) (hm : ∀ cs x,R S2 w cs x → R (fun b => S b ∧ some b ≠ v.ownBlock) w cs x) (hlen : l.length + l2.length < 1099511627776) (hbase : B ≤ w.heap.size)
    (h : ∀ v' w',Owned k R B e S w' v' (l ++ l2) → w.grownBy w' v.ownBlock → (v'.ownBlock = v.ownBlock ∨ v'.ownBlock = some w.heap.size) → wpList P ops Q rest (a.put o.dst v') w') : wpList P ops Q (o :: rest) a w :=
  wpList_plain hgd fun K hK => by
    obtain ⟨v',w',hrun,q2,q3,q4⟩ := run_append_many (P := P) (ty := o.type) hR hcell T hown h2 hm hlen hbase
    unfold Oper.wp execOp
    simp only [ho,resolve,invoke,builtin,Sem.run_bind,Sem.run_pure,Result.andThen_ok,List.map_toArray,List.map_cons,List.map_nil,hs,hx,hrun]
    exact hK _ _ (h v' w' q2 q3 q4)
end
theorem Agree.drew {S : Nat → Prop} {w w' : World} (h : Agree S w w') : Agree S w w'.drew := h
abbrev New (w : World) : Nat → Prop := fun b => w.heap.size ≤ b
theorem kept_cell {W1 w1 w2 : World} {o : Obj} {r : Option Nat} {c : Nat} (hb1 : Below W1.heap.size W1 w1) (hg2 : (w1.alloc o).grownBy w2 r) (hc : c < W1.heap.size) (hr : r ≠ some c) (off : Nat) : w2.cell? ⟨c,off,none⟩ = W1.cell? ⟨c,off,none⟩ := by
  have hlt : c < w1.heap.size := Nat.lt_of_lt_of_le hc hb1.size
  rw [hg2.cell_far ⟨c,off,none⟩ (by simp;omega) (fun e => hr e.symm)]
  exact (World.cell?_of_block (Below.heap_alloc _ _ _ hlt)).trans (hb1.cell (p := ⟨c,off,none⟩) hc)
theorem RStr.one {S : Nat → Prop} {w : World} {cs : List Value} {x : Str} (h : RStr S w cs x) : ∀ u ∈ cs,u.oneCell' = true := by
  have h' : cs = [.string x] := h
  subst h';simp [Value.oneCell']
theorem RFact.one {S : Nat → Prop} {w : World} {cs : List Value} {x : PFact} (h : RFact S w cs x) : ∀ u ∈ cs,u.oneCell' = true := by
  obtain ⟨av,rfl,hr⟩ := h
  obtain ⟨a,c,rfl,-⟩ := hr.form
  simp [Value.oneCell']
theorem rowStrs : RowT Tryz.prog 36 9 1 := RowT.mk' (b := 16) (z := .string ⟨#[]⟩) Tryz.underlying36 (by kernel_rfl) (by omega) rfl (by omega)
end Go.Proofs.YtiiicochdidolaaGreat
namespace Go.Proofs.YtiiicochdidolaaGreat
abbrev Bytes := List UInt8
def strOf (l : Bytes) : Str := ⟨l.toArray⟩
abbrev Got (α : Type) := Except (Int × Bytes) (α × Bytes)
def blankF : Bool → Bytes → Bytes
  | _,[] => []
  | note,c :: r => if c = 10 then blankF false r else if c = 37 then blankF true r else if c ≠ 32 ∧ note = false then c :: r else blankF note r
def eatsF (sign : Bytes) (r : Bytes) : Bool := sign.isPrefixOf (blankF false r)
def eatF (sign : Bytes) (r : Bytes) : Bytes := if eatsF sign r then (blankF false r).drop sign.length else blankF false r
def mustF (sign : Bytes) (r : Bytes) : Got Unit := if eatsF sign r then .ok ((),eatF sign r) else .error (2,eatF sign r)
def wordOf (r : Bytes) : Bytes := (blankF false r).takeWhile signB
def wordF (r : Bytes) : Got Str :=
  if wordOf r = [] then .error (2,blankF false r) else if nameL (wordOf r) = false ∧ varL (wordOf r) = false then .error (7,blankF false r) else .ok (strOf (wordOf r),(blankF false r).drop (wordOf r).length)
def termsF : Nat → List PTerm → Bytes → Got (List PTerm)
  | 0,_,r => .error (5,r)
  | n + 1,acc,r => match wordF r with
    | .error e => .error e
    | .ok (w,r1) => if eatsF [44] r1 then termsF n (acc ++ [⟨variableS w,w⟩]) (eatF [44] r1) else match mustF [41] (eatF [44] r1) with
      | .error e => .error e
      | .ok (_,r3) => .ok (acc ++ [⟨variableS w,w⟩],r3)
def negOf (no : Bool) (r : Bytes) : Bool := no && eatsF [33] r
def behindNot (no : Bool) (r : Bytes) : Bytes := blankF false (if no then eatF [33] r else r)
def atomF (no : Bool) (r : Bytes) : Got PAtom :=
  match wordF (behindNot no r) with
  | .error e => .error e
  | .ok (w,r2) => if variableS w then .error (7,behindNot no r) else if eatsF [40] r2 then match termsF 4 [] (eatF [40] r2) with
      | .error e => .error e
      | .ok (ts,r4) => .ok (⟨negOf no r,w,ts⟩,r4)
    else .ok (⟨negOf no r,w,[]⟩,eatF [40] r2)
def bodyF : Nat → List PAtom → Bytes → Got (List PAtom)
  | 0,_,r => .error (5,r)
  | n + 1,acc,r => match atomF true r with
    | .error e => .error e
    | .ok (a,r1) => if eatsF [44] r1 then bodyF n (acc ++ [a]) (eatF [44] r1) else .ok (acc ++ [a],eatF [44] r1)
def headF (r : Bytes) : Got PAtom := atomF false r
def tailF (r1 : Bytes) : Got (List PAtom) := if eatsF [58,45] r1 then bodyF 5 [] (eatF [58,45] r1) else .ok ([],eatF [58,45] r1)
def ruleF (r : Bytes) : Got PRule := match headF r with
  | .error e => .error e
  | .ok (h,r1) => match tailF r1 with
    | .error e => .error e
    | .ok (b,r3) => match mustF [46] r3 with
      | .error e => .error e
      | .ok (_,r4) => .ok (⟨h,b⟩,r4)
def progF : Nat → List PRule → Bytes → Got (List PRule)
  | 0,acc,r => if blankF false r = [] then .ok (acc,[]) else .error (5,blankF false r)
  | n + 1,acc,r => if blankF false r = [] then .ok (acc,[]) else match ruleF (blankF false r) with
    | .error e => .error e
    | .ok (x,r1) => progF n (acc ++ [x]) r1
def parseF (s : Str) : List PRule × Int × Int :=
  if 3000 < s.size then ([],4,0) else match progF 16 [] s.data.toList with
    | .ok (l,_) => (l,0,0)
    | .error (e,r) => ([],e,(s.size : Int) - r.length)
def bodyAllF (r : Bytes) : Got (List PAtom) := match bodyF 5 [] r with
  | .error e => .error e
  | .ok (l,r1) => if blankF false r1 = [] then .ok (l,[]) else .error (2,blankF false r1)
def parseBodyF (s : Str) : List PAtom × Int × Int :=
  if 3000 < s.size then ([],4,0) else match bodyAllF s.data.toList with
    | .ok (l,_) => (l,0,0)
    | .error (e,r) => ([],e,(s.size : Int) - r.length)
theorem blankF_suffix : ∀ (note : Bool) (r : Bytes),blankF note r <:+ r
  | _,[] => List.suffix_refl _
  | note,c :: r => by
    unfold blankF
    split
    · exact (blankF_suffix false r).trans (List.suffix_cons _ _)
    · split
      · exact (blankF_suffix true r).trans (List.suffix_cons _ _)
      · split
        · exact List.suffix_refl _
        · exact (blankF_suffix note r).trans (List.suffix_cons _ _)
theorem eatF_suffix (sign r : Bytes) : eatF sign r <:+ r := by
  unfold eatF
  split
  · exact (List.drop_suffix _ _).trans (blankF_suffix _ _)
  · exact blankF_suffix _ _
theorem behindNot_suffix (no : Bool) (r : Bytes) : behindNot no r <:+ r := by
  unfold behindNot
  refine (blankF_suffix _ _).trans ?_
  split
  · exact eatF_suffix _ _
  · exact List.suffix_refl _
theorem blankF_idem : ∀ (note : Bool) (r : Bytes),blankF false (blankF note r) = blankF note r
  | _,[] => rfl
  | note,c :: r => by
    rw [blankF]
    split
    · exact blankF_idem false r
    · split
      · exact blankF_idem true r
      · split
        · rename_i h1 h2 h3
          rw [blankF,if_neg h1,if_neg h2,if_pos ⟨h3.1,rfl⟩]
        · exact blankF_idem note r
def Got.left {α : Type} : Got α → Bytes
  | .ok (_,r) => r
  | .error (_,r) => r
theorem wordF_suffix (r : Bytes) : (wordF r).left <:+ r := by
  unfold wordF
  split
  · exact blankF_suffix _ _
  · split
    · exact blankF_suffix _ _
    · exact (List.drop_suffix _ _).trans (blankF_suffix _ _)
theorem mustF_suffix (sign r : Bytes) : (mustF sign r).left <:+ r := by
  unfold mustF
  split <;> exact eatF_suffix _ _
theorem termsF_suffix : ∀ (n : Nat) (acc : List PTerm) (r : Bytes),(termsF n acc r).left <:+ r
  | 0,_,_ => List.suffix_refl _
  | n + 1,acc,r => by
    have hw := wordF_suffix r
    unfold termsF
    split
    · rename_i e h;rw [h] at hw;exact hw
    · rename_i w r1 h
      rw [h] at hw
      have hw' : r1 <:+ r := hw
      split
      · exact (termsF_suffix n _ _).trans ((eatF_suffix _ _).trans hw')
      · have hm := mustF_suffix [41] (eatF [44] r1)
        split
        · rename_i e h2;rw [h2] at hm;exact List.IsSuffix.trans hm ((eatF_suffix _ _).trans hw')
        · rename_i r3 h2;rw [h2] at hm;exact List.IsSuffix.trans (l₂ := eatF [44] r1) hm ((eatF_suffix _ _).trans hw')
theorem atomF_suffix (no : Bool) (r : Bytes) : (atomF no r).left <:+ r := by
  have hb := behindNot_suffix no r
  have hw := wordF_suffix (behindNot no r)
  unfold atomF
  split
  · rename_i e h;rw [h] at hw;exact List.IsSuffix.trans hw hb
  · rename_i w r2 h
    rw [h] at hw
    have hw' : r2 <:+ behindNot no r := hw
    split
    · exact hb
    · split
      · have ht := termsF_suffix 4 [] (eatF [40] r2)
        split
        · rename_i e h2;rw [h2] at ht;exact List.IsSuffix.trans ht ((eatF_suffix _ _).trans (hw'.trans hb))
        · rename_i ts r4 h2;rw [h2] at ht;exact List.IsSuffix.trans (l₂ := eatF [40] r2) ht ((eatF_suffix _ _).trans (hw'.trans hb))
      · exact (eatF_suffix _ _).trans (hw'.trans hb)
theorem bodyF_suffix : ∀ (n : Nat) (acc : List PAtom) (r : Bytes),(bodyF n acc r).left <:+ r
  | 0,_,_ => List.suffix_refl _
  | n + 1,acc,r => by
    have hw := atomF_suffix true r
    unfold bodyF
    split
    · rename_i e h;rw [h] at hw;exact hw
    · rename_i a r1 h
      rw [h] at hw
      have hw' : r1 <:+ r := hw
      split
      · exact (bodyF_suffix n _ _).trans ((eatF_suffix _ _).trans hw')
      · exact (eatF_suffix _ _).trans hw'
theorem tailF_suffix (r : Bytes) : (tailF r).left <:+ r := by
  unfold tailF
  split
  · exact (bodyF_suffix _ _ _).trans (eatF_suffix _ _)
  · exact eatF_suffix _ _
theorem ruleF_suffix (r : Bytes) : (ruleF r).left <:+ r := by
  have hh := atomF_suffix false r
  unfold ruleF headF
  split
  · rename_i e h;rw [h] at hh;exact hh
  · rename_i a r1 h
    rw [h] at hh
    have hh' : r1 <:+ r := hh
    have ht := tailF_suffix r1
    split
    · rename_i e h2;rw [h2] at ht;exact List.IsSuffix.trans ht hh'
    · rename_i b r3 h2
      rw [h2] at ht
      have ht' : r3 <:+ r1 := ht
      have hm := mustF_suffix [46] r3
      split
      · rename_i e h3;rw [h3] at hm;exact List.IsSuffix.trans hm (ht'.trans hh')
      · rename_i r4 h3;rw [h3] at hm;exact List.IsSuffix.trans (l₂ := r3) hm (ht'.trans hh')
end Go.Proofs.YtiiicochdidolaaGreat
