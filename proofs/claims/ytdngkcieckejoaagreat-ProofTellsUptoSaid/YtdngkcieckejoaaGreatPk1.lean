/-
  THE TEXTS Pure, FactP, NamesP, CheckP, MatchP, MatchQ, one behind the other.
-/
import Derived.Laws.Strings
namespace Go.Proofs.YtdngkcieckejoaaGreat
section
abbrev Str := ByteArray
structure PFact where
 name : Str
 args : List Str
 deriving DecidableEq
instance : Inhabited PFact := ⟨⟨ByteArray.empty,[]⟩⟩
structure PTerm where
 var : Bool
 name : Str
 deriving DecidableEq
instance : Inhabited PTerm := ⟨⟨false,ByteArray.empty⟩⟩
structure PAtom where
 neg : Bool
 name : Str
 terms : List PTerm
 deriving DecidableEq
instance : Inhabited PAtom := ⟨⟨false,ByteArray.empty,[]⟩⟩
structure PRule where
 head : PAtom
 body : List PAtom
 deriving DecidableEq
instance : Inhabited PRule := ⟨⟨default,[]⟩⟩
structure PBind where
 var : Str
 name : Str
 deriving DecidableEq
instance : Inhabited PBind := ⟨⟨ByteArray.empty,ByteArray.empty⟩⟩
theorem bytesLess_irrefl : ∀ l : List UInt8,Op.bytesLess l l = false
 | [] => rfl
 | a :: x => by simp [Op.bytesLess,bytesLess_irrefl x]
theorem bytesLess_tri : ∀ a b : List UInt8,Op.bytesLess a b = false → Op.bytesLess b a = false → a = b
 | [],[],_,_ => rfl
 | [],_ :: _,h,_ => by simp [Op.bytesLess] at h
 | _ :: _,[],_,h => by simp [Op.bytesLess] at h
 | a :: x,b :: y,h,k => by
  simp only [Op.bytesLess,Bool.or_eq_false_iff,decide_eq_false_iff_not,Bool.and_eq_false_iff,beq_eq_false_iff_ne] at h k
  have e : a = b := UInt8.le_antisymm (UInt8.not_lt.1 k.1) (UInt8.not_lt.1 h.1)
  subst e
  have := bytesLess_tri x y (by simpa using h.2) (by simpa using k.2)
  rw [this]
theorem bytesLess_asymm : ∀ a b : List UInt8,Op.bytesLess a b = true → Op.bytesLess b a = false
 | [],[],h => by simp [Op.bytesLess] at h
 | [],_ :: _,_ => rfl
 | _ :: _,[],h => by simp [Op.bytesLess] at h
 | a :: x,b :: y,h => by
  simp only [Op.bytesLess,Bool.or_eq_true,decide_eq_true_eq,Bool.and_eq_true,beq_iff_eq] at h
  rcases h with h | ⟨rfl,h⟩
  ·have h1 : ¬ b < a := fun h' => absurd (UInt8.lt_trans h h') (UInt8.lt_irrefl _)
   have h2 : b ≠ a := fun e => by subst e;exact UInt8.lt_irrefl _ h
   simp [Op.bytesLess,h1,h2]
  ·simp [Op.bytesLess,bytesLess_asymm x y h]
theorem bytesLess_trans : ∀ a b c : List UInt8,Op.bytesLess a b = true → Op.bytesLess b c = true → Op.bytesLess a c = true
 | _,[],_,h,_ => by cases ‹List UInt8› <;> simp [Op.bytesLess] at h
 | _,_ :: _,[],_,h => by simp [Op.bytesLess] at h
 | [],_ :: _,_ :: _,_,_ => rfl
 | a :: x,b :: y,c :: z,h,k => by
  simp only [Op.bytesLess,Bool.or_eq_true,decide_eq_true_eq,Bool.and_eq_true,beq_iff_eq] at h k ⊢
  rcases h with h | ⟨rfl,h⟩ <;> rcases k with k | ⟨rfl,k⟩
  ·exact .inl (UInt8.lt_trans h k)
  ·exact .inl h
  ·exact .inl k
  ·exact .inr ⟨rfl,bytesLess_trans x y z h k⟩
theorem baList (a : ByteArray) : a.toList = a.data.toList := by
 exact ByteArray.toList_eq a
theorem toList_inj {a b : ByteArray} (h : a.toList = b.toList) : a = b := by
 rw [baList,baList] at h
 cases a;cases b
 simpa [Array.toList_inj] using h
def strLt (a b : Str) : Bool := Op.bytesLess a.toList b.toList
theorem strLt_irrefl (a : Str) : strLt a a = false := bytesLess_irrefl _
theorem strLt_asymm {a b : Str} (h : strLt a b = true) : strLt b a = false := bytesLess_asymm _ _ h
theorem strLt_trans {a b c : Str} (h : strLt a b = true) (k : strLt b c = true) : strLt a c = true := bytesLess_trans _ _ _ h k
theorem strLt_tri {a b : Str} (h : strLt a b = false) (k : strLt b a = false) : a = b := toList_inj (bytesLess_tri _ _ h k)
def memS (x : Str) : List Str → Bool
 | [] => false
 | y :: l => decide (x = y) || memS x l
theorem memS_iff (x : Str) : ∀ l,memS x l = true ↔ x ∈ l
 | [] => by simp [memS]
 | y :: l => by simp [memS,memS_iff x l]
def cmpStr (a b : Str) : Int := if strLt a b then -1 else if strLt b a then 1 else 0
def cmpInt (a b : Int) : Int := if a < b then -1 else if b < a then 1 else 0
def cmpStrs : List Str → List Str → Int
 | [],[] => 0
 | [],_ :: _ => -1
 | _ :: _,[] => 1
 | a :: x,b :: y => if cmpStr a b ≠ 0 then cmpStr a b else cmpStrs x y
def orInt : List Int → Int
 | [] => 0
 | a :: l => if a ≠ 0 then a else orInt l
def cmpFact (f g : PFact) : Int := orInt [cmpStr f.name g.name,cmpInt f.args.length g.args.length,cmpStrs f.args g.args]
end
section
structure Cmp3 {α : Type} (c : α → α → Int) : Prop where
 anti : ∀ a b,c a b < 0 ↔ 0 < c b a
 zero : ∀ a b,c a b = 0 ↔ a = b
 trans : ∀ a b d,c a b < 0 → c b d < 0 → c a d < 0
theorem cmpInt3 : Cmp3 cmpInt where
 anti a b := by unfold cmpInt;split <;> split <;> (try split) <;> omega
 zero a b := by unfold cmpInt;split <;> (try split) <;> omega
 trans a b d := by unfold cmpInt;split <;> split <;> (try split) <;> (try split) <;> omega
theorem cmpStr_lt (a b : Str) : cmpStr a b < 0 ↔ strLt a b = true := by
 unfold cmpStr
 cases h : strLt a b <;> cases h2 : strLt b a <;> simp
theorem cmpStr_gt (a b : Str) : 0 < cmpStr a b ↔ strLt b a = true := by
 unfold cmpStr
 cases h : strLt a b
 ·cases h2 : strLt b a <;> simp
 ·simp [strLt_asymm h]
theorem cmpStr3 : Cmp3 cmpStr where
 anti a b := by rw [cmpStr_lt,cmpStr_gt]
 zero a b := by
  constructor
  ·intro h
   refine strLt_tri ?_ ?_
   ·cases h1 : strLt a b
    ·rfl
    ·have := (cmpStr_lt a b).2 h1;omega
   ·cases h1 : strLt b a
    ·rfl
    ·have := (cmpStr_gt a b).2 h1;omega
  ·rintro rfl
   simp [cmpStr,strLt_irrefl]
 trans a b d h k := (cmpStr_lt _ _).2 (strLt_trans ((cmpStr_lt _ _).1 h) ((cmpStr_lt _ _).1 k))
theorem Cmp3.self {α : Type} {c : α → α → Int} (h : Cmp3 c) (a : α) : c a a = 0 := (h.zero a a).2 rfl
theorem Cmp3.ne_zero {α : Type} {c : α → α → Int} (h : Cmp3 c) {a b : α} (hne : a ≠ b) : c a b ≠ 0 := fun e => hne ((h.zero a b).1 e)
theorem cmpStrs_cons (a b : Str) (x y : List Str) : cmpStrs (a :: x) (b :: y) = if cmpStr a b ≠ 0 then cmpStr a b else cmpStrs x y := rfl
theorem cmpStrs3 : Cmp3 cmpStrs where
 anti := by
  intro a
  induction a with
  | nil => intro b;cases b <;> simp [cmpStrs]
  | cons a x ih =>
   intro b
   cases b with
   | nil => simp [cmpStrs]
   | cons b y =>
    rw [cmpStrs_cons,cmpStrs_cons]
    by_cases h : a = b
    ·subst h;simp [cmpStr3.self,ih y]
    ·rw [if_pos (cmpStr3.ne_zero h),if_pos (cmpStr3.ne_zero (Ne.symm h))];exact cmpStr3.anti a b
 zero := by
  intro a
  induction a with
  | nil => intro b;cases b <;> simp [cmpStrs]
  | cons a x ih =>
   intro b
   cases b with
   | nil => simp [cmpStrs]
   | cons b y =>
    rw [cmpStrs_cons]
    by_cases h : a = b
    ·subst h;simp [cmpStr3.self,ih y]
    ·rw [if_pos (cmpStr3.ne_zero h)]
     simp [h,cmpStr3.ne_zero h]
 trans := by
  intro a
  induction a with
  | nil =>
   intro b d h k
   cases d with
   | nil => cases b <;> simp [cmpStrs] at h k
   | cons d z => simp [cmpStrs]
  | cons a x ih =>
   intro b d h k
   cases b with
   | nil => simp [cmpStrs] at h
   | cons b y =>
    cases d with
    | nil => simp [cmpStrs] at k
    | cons d z =>
     rw [cmpStrs_cons] at h k ⊢
     by_cases h1 : a = b
     ·subst h1
      rw [if_neg (by simp [cmpStr3.self])] at h
      by_cases h2 : a = d
      ·subst h2
       rw [if_neg (by simp [cmpStr3.self])] at k ⊢
       exact ih y z h k
      ·rw [if_pos (cmpStr3.ne_zero h2)] at k ⊢
       exact k
     ·rw [if_pos (cmpStr3.ne_zero h1)] at h
      by_cases h2 : b = d
      ·subst h2
       rw [if_pos (cmpStr3.ne_zero h1)]
       exact h
      ·rw [if_pos (cmpStr3.ne_zero h2)] at k
       have h3 := cmpStr3.trans a b d h k
       rw [if_pos (by omega)]
       exact h3
theorem cmpFact_eq (f g : PFact) : cmpFact f g = if cmpStr f.name g.name ≠ 0 then cmpStr f.name g.name else if cmpInt f.args.length g.args.length ≠ 0 then cmpInt f.args.length g.args.length else if cmpStrs f.args g.args ≠ 0 then cmpStrs f.args g.args else 0 := rfl
theorem cmpFact_name {f g : PFact} (h : f.name ≠ g.name) : cmpFact f g = cmpStr f.name g.name := by
 rw [cmpFact_eq,if_pos (cmpStr3.ne_zero h)]
theorem cmpFact_len {f g : PFact} (h : f.name = g.name) (k : (f.args.length : Int) ≠ g.args.length) : cmpFact f g = cmpInt f.args.length g.args.length := by
 rw [cmpFact_eq,h,if_neg (by simp [cmpStr3.self]),if_pos (cmpInt3.ne_zero k)]
theorem cmpFact_args {f g : PFact} (h : f.name = g.name) (k : (f.args.length : Int) = g.args.length) : cmpFact f g = cmpStrs f.args g.args := by
 rw [cmpFact_eq,h,if_neg (by simp [cmpStr3.self]),k,if_neg (by simp [cmpInt3.self])]
 split
 ·rfl
 ·omega
theorem cmpFact3 : Cmp3 cmpFact where
 anti f g := by
  by_cases h1 : f.name = g.name
  ·by_cases h2 : (f.args.length : Int) = g.args.length
   ·rw [cmpFact_args h1 h2,cmpFact_args h1.symm h2.symm];exact cmpStrs3.anti _ _
   ·rw [cmpFact_len h1 h2,cmpFact_len h1.symm (Ne.symm h2)];exact cmpInt3.anti _ _
  ·rw [cmpFact_name h1,cmpFact_name (Ne.symm h1)];exact cmpStr3.anti _ _
 zero f g := by
  by_cases h1 : f.name = g.name
  ·by_cases h2 : (f.args.length : Int) = g.args.length
   ·rw [cmpFact_args h1 h2,cmpStrs3.zero]
    constructor
    ·intro h;cases f;cases g;simp_all
    ·rintro rfl;rfl
   ·rw [cmpFact_len h1 h2,cmpInt3.zero]
    constructor
    ·intro h;exact absurd h h2
    ·rintro rfl;rfl
  ·rw [cmpFact_name h1,cmpStr3.zero]
   constructor
   ·intro h;exact absurd h h1
   ·rintro rfl;rfl
 trans f g d h k := by
  by_cases h1 : f.name = g.name
  ·by_cases k1 : g.name = d.name
   ·by_cases h2 : (f.args.length : Int) = g.args.length
    ·by_cases k2 : (g.args.length : Int) = d.args.length
     ·rw [cmpFact_args h1 h2] at h
      rw [cmpFact_args k1 k2] at k
      rw [cmpFact_args (h1.trans k1) (h2.trans k2)]
      exact cmpStrs3.trans _ _ _ h k
     ·rw [cmpFact_len k1 k2] at k
      rw [cmpFact_len (h1.trans k1) (by rw [h2];exact k2),h2]
      exact k
    ·rw [cmpFact_len h1 h2] at h
     by_cases k2 : (g.args.length : Int) = d.args.length
     ·rw [cmpFact_len (h1.trans k1) (by rw [← k2];exact h2),← k2]
      exact h
     ·rw [cmpFact_len k1 k2] at k
      have h3 := cmpInt3.trans _ _ _ h k
      rw [cmpFact_len (h1.trans k1) (fun e => by rw [e,cmpInt3.self] at h3;omega)]
      exact h3
   ·rw [cmpFact_name k1] at k
    rw [cmpFact_name (by rw [h1];exact k1),h1]
    exact k
  ·rw [cmpFact_name h1] at h
   by_cases k1 : g.name = d.name
   ·rw [cmpFact_name (by rw [← k1];exact h1),← k1]
    exact h
   ·rw [cmpFact_name k1] at k
    have h3 := cmpStr3.trans _ _ _ h k
    rw [cmpFact_name (fun e => by rw [e,cmpStr3.self] at h3;omega)]
    exact h3
def ltF (f g : PFact) : Bool := decide (cmpFact f g < 0)
theorem ltF_irrefl (f : PFact) : ltF f f = false := by simp [ltF,cmpFact3.self]
theorem ltF_trans {f g d : PFact} (h : ltF f g = true) (k : ltF g d = true) : ltF f d = true := by
 simp only [ltF,decide_eq_true_eq] at *;exact cmpFact3.trans _ _ _ h k
theorem ltF_asymm {f g : PFact} (h : ltF f g = true) : ltF g f = false := by
 simp only [ltF,decide_eq_true_eq,decide_eq_false_iff_not] at *;have := (cmpFact3.anti f g).1 h;omega
theorem ltF_tri {f g : PFact} (h : ltF f g = false) (k : ltF g f = false) : f = g := by
 simp only [ltF,decide_eq_false_iff_not] at *
 refine (cmpFact3.zero f g).1 ?_
 have := cmpFact3.anti g f
 omega
def Rising (l : List PFact) : Prop := l.Pairwise fun a b => ltF a b = true
def memF (f : PFact) : List PFact → Bool
 | [] => false
 | g :: l => decide (f = g) || memF f l
theorem memF_iff (f : PFact) : ∀ l,memF f l = true ↔ f ∈ l
 | [] => by simp [memF]
 | y :: l => by simp [memF,memF_iff f l]
def addF (f : PFact) : List PFact → List PFact
 | [] => [f]
 | g :: l => if ltF f g then f :: g :: l else if f = g then g :: l else g :: addF f l
def ofF (l : List PFact) : List PFact := l.foldr addF []
theorem mem_addF (f x : PFact) : ∀ l,x ∈ addF f l ↔ x = f ∨ x ∈ l
 | [] => by simp [addF]
 | g :: l => by
  unfold addF
  by_cases h : ltF f g = true
  ·simp [h]
  ·rw [if_neg h]
   by_cases e : f = g
   ·subst e;simp
   ·rw [if_neg e];simp only [List.mem_cons,mem_addF f x l]
    constructor
    ·rintro (h | h | h) <;> simp [h]
    ·rintro (h | h | h) <;> simp [h]
theorem addF_rising (f : PFact) : ∀ l,Rising l → Rising (addF f l)
 | [],_ => by simp [addF,Rising]
 | g :: l,h => by
  have hg := (List.pairwise_cons.1 h)
  unfold addF
  by_cases hl : ltF f g = true
  ·rw [if_pos hl]
   refine List.pairwise_cons.2 ⟨fun x hx => ?_,h⟩
   rcases List.mem_cons.1 hx with rfl | hx
   ·exact hl
   ·exact ltF_trans hl (hg.1 x hx)
  ·rw [if_neg hl]
   by_cases e : f = g
   ·rw [if_pos e];exact h
   ·rw [if_neg e]
    refine List.pairwise_cons.2 ⟨fun x hx => ?_,addF_rising f l hg.2⟩
    rcases (mem_addF f x l).1 hx with rfl | hx
    ·cases hgf : ltF g x
     ·exact absurd (ltF_tri (by simpa using hl) hgf) e
     ·rfl
    ·exact hg.1 x hx
theorem ofF_rising (l : List PFact) : Rising (ofF l) := by
 induction l with
 | nil => exact List.Pairwise.nil
 | cons f l ih => exact addF_rising f _ ih
theorem mem_ofF (x : PFact) (l : List PFact) : x ∈ ofF l ↔ x ∈ l := by
 induction l with
 | nil => simp [ofF]
 | cons f l ih =>
  show x ∈ addF f (ofF l) ↔ _
  rw [mem_addF,ih,List.mem_cons]
theorem rising_ext : ∀ {a b : List PFact},Rising a → Rising b → (∀ x,x ∈ a ↔ x ∈ b) → a = b
 | [],[],_,_,_ => rfl
 | [],y :: b,_,_,h => by have := (h y).2 (by simp);simp at this
 | x :: a,[],_,_,h => by have := (h x).1 (by simp);simp at this
 | x :: a,y :: b,ha,hb,h => by
  have ha' := List.pairwise_cons.1 ha
  have hb' := List.pairwise_cons.1 hb
  have e : x = y := by
   rcases List.mem_cons.1 ((h x).1 (by simp)) with e | hx
   ·exact e
   ·rcases List.mem_cons.1 ((h y).2 (by simp)) with e | hy
    ·exact e.symm
    ·have h1 := hb'.1 x hx
     have h2 := ha'.1 y hy
     rw [ltF_asymm h1] at h2;cases h2
  subst e
  congr 1
  refine rising_ext ha'.2 hb'.2 fun z => ?_
  constructor
  ·intro hz
   rcases List.mem_cons.1 ((h z).1 (by simp [hz])) with rfl | hz'
   ·have := ha'.1 z hz;rw [ltF_irrefl] at this;cases this
   ·exact hz'
  ·intro hz
   rcases List.mem_cons.1 ((h z).2 (by simp [hz])) with rfl | hz'
   ·have := hb'.1 z hz;rw [ltF_irrefl] at this;cases this
   ·exact hz'
def joinF (a b : List PFact) : List PFact := ofF (a ++ b)
def lessF (a b : List PFact) : List PFact := a.filter fun f => !memF f b
end
section
def smallB (c : UInt8) : Bool := decide ((97 ≤ c.toNat ∧ c.toNat ≤ 122) ∨ (48 ≤ c.toNat ∧ c.toNat ≤ 57))
def upperB (c : UInt8) : Bool := decide (65 ≤ c.toNat ∧ c.toNat ≤ 90)
def signB (c : UInt8) : Bool := smallB c || upperB c || decide (c.toNat = 95)
def nameL (l : List UInt8) : Bool := decide (l.length ≤ 12) && (match l with | [] => false | c :: cs => smallB c && cs.all signB)
def varL (l : List UInt8) : Bool := decide (l.length ≤ 12) && (match l with | [] => false | c :: cs => upperB c && cs.all signB)
def named (s : Str) : Bool := nameL s.data.toList
def variableS (s : Str) : Bool := varL s.data.toList
theorem byte_cases (c : UInt8) :
 (((97 : Int) ≤ (c.toNat : Int) ∧ (c.toNat : Int) ≤ 122) ∧ smallB c = true ∧ upperB c = false ∧ signB c = true) ∨
 (((48 : Int) ≤ (c.toNat : Int) ∧ (c.toNat : Int) ≤ 57) ∧ smallB c = true ∧ upperB c = false ∧ signB c = true) ∨
 (((65 : Int) ≤ (c.toNat : Int) ∧ (c.toNat : Int) ≤ 90) ∧ smallB c = false ∧ upperB c = true ∧ signB c = true) ∨
 (((95 : Int) ≤ (c.toNat : Int) ∧ (c.toNat : Int) ≤ 95) ∧ smallB c = false ∧ upperB c = false ∧ signB c = true) ∨
 (((0 : Int) ≤ (c.toNat : Int) ∧ (c.toNat : Int) ≤ 47) ∧ smallB c = false ∧ upperB c = false ∧ signB c = false) ∨
 (((58 : Int) ≤ (c.toNat : Int) ∧ (c.toNat : Int) ≤ 64) ∧ smallB c = false ∧ upperB c = false ∧ signB c = false) ∨
 (((91 : Int) ≤ (c.toNat : Int) ∧ (c.toNat : Int) ≤ 94) ∧ smallB c = false ∧ upperB c = false ∧ signB c = false) ∨
 (((96 : Int) ≤ (c.toNat : Int) ∧ (c.toNat : Int) ≤ 96) ∧ smallB c = false ∧ upperB c = false ∧ signB c = false) ∨
 (((123 : Int) ≤ (c.toNat : Int) ∧ (c.toNat : Int) ≤ 255) ∧ smallB c = false ∧ upperB c = false ∧ signB c = false) := by
 have hlt : c.toNat < 256 := c.toNat_lt
 have S1 : ∀ p : Prop,[Decidable p] → p → decide p = true := fun p _ h => decide_eq_true h
 have S0 : ∀ p : Prop,[Decidable p] → ¬ p → decide p = false := fun p _ h => decide_eq_false h
 have G : ∀ a b d : Bool,smallB c = a → upperB c = b → decide (c.toNat = 95) = d → signB c = (a || b || d) := fun a b d h1 h2 h3 => by rw [signB,h1,h2,h3]
 by_cases h1 : c.toNat ≤ 47
 ·have x := S0 _ (show ¬ ((97 ≤ c.toNat ∧ c.toNat ≤ 122) ∨ (48 ≤ c.toNat ∧ c.toNat ≤ 57)) by omega);have y := S0 _ (show ¬ (65 ≤ c.toNat ∧ c.toNat ≤ 90) by omega);have z := S0 _ (show ¬ c.toNat = 95 by omega)
  exact .inr (.inr (.inr (.inr (.inl ⟨⟨by omega,by omega⟩,x,y,G _ _ _ x y z⟩))))
 by_cases h2 : c.toNat ≤ 57
 ·have x := S1 _ (show ((97 ≤ c.toNat ∧ c.toNat ≤ 122) ∨ (48 ≤ c.toNat ∧ c.toNat ≤ 57)) by omega);have y := S0 _ (show ¬ (65 ≤ c.toNat ∧ c.toNat ≤ 90) by omega);have z := S0 _ (show ¬ c.toNat = 95 by omega)
  exact .inr (.inl ⟨⟨by omega,by omega⟩,x,y,G _ _ _ x y z⟩)
 by_cases h3 : c.toNat ≤ 64
 ·have x := S0 _ (show ¬ ((97 ≤ c.toNat ∧ c.toNat ≤ 122) ∨ (48 ≤ c.toNat ∧ c.toNat ≤ 57)) by omega);have y := S0 _ (show ¬ (65 ≤ c.toNat ∧ c.toNat ≤ 90) by omega);have z := S0 _ (show ¬ c.toNat = 95 by omega)
  exact .inr (.inr (.inr (.inr (.inr (.inl ⟨⟨by omega,by omega⟩,x,y,G _ _ _ x y z⟩)))))
 by_cases h4 : c.toNat ≤ 90
 ·have x := S0 _ (show ¬ ((97 ≤ c.toNat ∧ c.toNat ≤ 122) ∨ (48 ≤ c.toNat ∧ c.toNat ≤ 57)) by omega);have y := S1 _ (show (65 ≤ c.toNat ∧ c.toNat ≤ 90) by omega);have z := S0 _ (show ¬ c.toNat = 95 by omega)
  exact .inr (.inr (.inl ⟨⟨by omega,by omega⟩,x,y,G _ _ _ x y z⟩))
 by_cases h5 : c.toNat ≤ 94
 ·have x := S0 _ (show ¬ ((97 ≤ c.toNat ∧ c.toNat ≤ 122) ∨ (48 ≤ c.toNat ∧ c.toNat ≤ 57)) by omega);have y := S0 _ (show ¬ (65 ≤ c.toNat ∧ c.toNat ≤ 90) by omega);have z := S0 _ (show ¬ c.toNat = 95 by omega)
  exact .inr (.inr (.inr (.inr (.inr (.inr (.inl ⟨⟨by omega,by omega⟩,x,y,G _ _ _ x y z⟩))))))
 by_cases h6 : c.toNat ≤ 95
 ·have x := S0 _ (show ¬ ((97 ≤ c.toNat ∧ c.toNat ≤ 122) ∨ (48 ≤ c.toNat ∧ c.toNat ≤ 57)) by omega);have y := S0 _ (show ¬ (65 ≤ c.toNat ∧ c.toNat ≤ 90) by omega);have z := S1 _ (show c.toNat = 95 by omega)
  exact .inr (.inr (.inr (.inl ⟨⟨by omega,by omega⟩,x,y,G _ _ _ x y z⟩)))
 by_cases h7 : c.toNat ≤ 96
 ·have x := S0 _ (show ¬ ((97 ≤ c.toNat ∧ c.toNat ≤ 122) ∨ (48 ≤ c.toNat ∧ c.toNat ≤ 57)) by omega);have y := S0 _ (show ¬ (65 ≤ c.toNat ∧ c.toNat ≤ 90) by omega);have z := S0 _ (show ¬ c.toNat = 95 by omega)
  exact .inr (.inr (.inr (.inr (.inr (.inr (.inr (.inl ⟨⟨by omega,by omega⟩,x,y,G _ _ _ x y z⟩)))))))
 by_cases h8 : c.toNat ≤ 122
 ·have x := S1 _ (show ((97 ≤ c.toNat ∧ c.toNat ≤ 122) ∨ (48 ≤ c.toNat ∧ c.toNat ≤ 57)) by omega);have y := S0 _ (show ¬ (65 ≤ c.toNat ∧ c.toNat ≤ 90) by omega);have z := S0 _ (show ¬ c.toNat = 95 by omega)
  exact .inl ⟨⟨by omega,by omega⟩,x,y,G _ _ _ x y z⟩
 ·have x := S0 _ (show ¬ ((97 ≤ c.toNat ∧ c.toNat ≤ 122) ∨ (48 ≤ c.toNat ∧ c.toNat ≤ 57)) by omega);have y := S0 _ (show ¬ (65 ≤ c.toNat ∧ c.toNat ≤ 90) by omega);have z := S0 _ (show ¬ c.toNat = 95 by omega)
  exact .inr (.inr (.inr (.inr (.inr (.inr (.inr (.inr ⟨⟨by omega,by omega⟩,x,y,G _ _ _ x y z⟩)))))))
def okFrom : Nat → List UInt8 → Bool
 | _,[] => true
 | j,c :: cs => (smallB c || (decide (j ≠ 0) && signB c)) && okFrom (j + 1) cs
theorem okFrom_succ (j : Nat) : ∀ l,okFrom (j + 1) l = l.all signB
 | [] => rfl
 | c :: cs => by
  simp only [okFrom,List.all_cons,okFrom_succ (j + 1) cs]
  cases h : smallB c <;> simp [signB,h]
theorem nameL_okFrom (l : List UInt8) : nameL l = (decide (l.length ≤ 12) && (decide (1 ≤ l.length) && okFrom 0 l)) := by
 cases l with
 | nil => rfl
 | cons c cs => simp [nameL,okFrom,okFrom_succ]
theorem named_ok (s : Str) (h1 : 1 ≤ s.size) (h2 : s.size ≤ 12) : named s = okFrom 0 s.data.toList := by
 have e : s.data.toList.length = s.size := by rw [Array.length_toList];rfl
 rw [named,nameL_okFrom,e]
 simp [h1,h2]
theorem named_empty (s : Str) (h : s.size < 1) : named s = false := by
 have e : s.data.toList.length = s.size := by rw [Array.length_toList];rfl
 rw [named,nameL_okFrom,e]
 simp;omega
theorem named_long (s : Str) (h : 12 < s.size) : named s = false := by
 have e : s.data.toList.length = s.size := by rw [Array.length_toList];rfl
 rw [named,nameL_okFrom,e]
 simp;omega
theorem drop_bytes (s : Str) (k : Nat) (h : k < s.size) : s.data.toList.drop k = s[k] :: s.data.toList.drop (k + 1) := by
 have e : s.data.toList.length = s.size := by rw [Array.length_toList];rfl
 rw [List.drop_eq_getElem_cons (by omega)]
 rfl
theorem drop_bytes_end (s : Str) (k : Nat) (h : s.size ≤ k) : s.data.toList.drop k = [] := by
 have e : s.data.toList.length = s.size := by rw [Array.length_toList];rfl
 exact List.drop_eq_nil_of_le (by omega)
theorem okFrom_here {s : Str} {k : Nat} (h : k < s.size) (hr : okFrom 0 s.data.toList = okFrom k (s.data.toList.drop k)) (hc : smallB s[k] = true ∨ (k ≠ 0 ∧ signB s[k] = true)) :
 okFrom 0 s.data.toList = okFrom (k + 1) (s.data.toList.drop (k + 1)) := by
 rw [hr,drop_bytes s k h,okFrom]
 rcases hc with hc | ⟨h0,hc⟩ <;> simp [*]
theorem okFrom_bad {s : Str} {k : Nat} (h : k < s.size) (hr : okFrom 0 s.data.toList = okFrom k (s.data.toList.drop k)) (hs : smallB s[k] = false) (hc : k = 0 ∨ signB s[k] = false) :
 okFrom 0 s.data.toList = false := by
 rw [hr,drop_bytes s k h,okFrom,hs]
 rcases hc with hc | hc
 ·rw [decide_eq_false (by simpa using hc)];rfl
 ·rw [hc];simp
end
section
def termOk (t : PTerm) : Bool := if t.var then variableS t.name else named t.name
def atomBad (a : PAtom) : Int := if named a.name = false then 7 else if 4 < a.terms.length then 5 else if a.terms.all termOk then 0 else 7
def varsF : List Str → List PTerm → List Str
 | acc,[] => acc
 | acc,t :: l => varsF (if t.var && !memS t.name acc then acc ++ [t.name] else acc) l
def varsOf (a : PAtom) : List Str := varsF [] a.terms
def heldOf (l : List PAtom) : List Str := l.flatMap fun a => if a.neg then [] else varsOf a
def firstBad : List PAtom → Int
 | [] => 0
 | a :: l => if atomBad a ≠ 0 then atomBad a else firstBad l
def freeIn (held : List Str) (l : List PAtom) : Bool := l.all fun a => (varsOf a).all fun v => memS v held
def bodyBad (l : List PAtom) : Int := if 5 < l.length then 5 else if firstBad l ≠ 0 then firstBad l else if freeIn (heldOf l) l then 0 else 9
def allVars (l : List PAtom) : List Str := l.flatMap varsOf
def ruleBad (r : PRule) : Int := if atomBad r.head ≠ 0 then atomBad r.head else if r.head.neg then 2 else if bodyBad r.body ≠ 0 then bodyBad r.body else if (varsOf r.head).all (fun v => memS v (allVars r.body)) then 0 else 9
abbrev Known := Str → Option Int
def fits (m : Known) (a : PAtom) : Bool := match m a.name with
 | none => true
 | some n => n == (a.terms.length : Int)
def learn (m : Known) (a : PAtom) : Known := if (m a.name).isSome then m else fun t => if t = a.name then some (a.terms.length : Int) else m t
def fitAll : Known → List PAtom → Bool
 | _,[] => true
 | m,a :: l => fits m a && fitAll (learn m a) l
def learnAll : Known → List PAtom → Known
 | m,[] => m
 | m,a :: l => learnAll (learn m a) l
def wrongFrom : Known → Int → List PRule → Int × Int
 | _,_,[] => (0,0)
 | m,i,r :: p => if ruleBad r ≠ 0 then (ruleBad r,i) else if fitAll m (r.head :: r.body) then wrongFrom (learnAll m (r.head :: r.body)) (i + 1) p else (8,i)
def wrongP (p : List PRule) : Int × Int := if 16 < p.length then (5,0) else wrongFrom (fun _ => none) 0 p
theorem ruleBad_body {r : PRule} (h : ruleBad r = 0) : r.body.length ≤ 5 := by
 unfold ruleBad at h
 split at h
 ·rename_i h1;exact absurd h h1
 ·split at h
  ·exact absurd h (by decide)
  ·split at h
   ·rename_i h1;exact absurd h h1
   ·rename_i h1
    have hb : bodyBad r.body = 0 := Classical.byContradiction fun e => h1 e
    unfold bodyBad at hb
    split at hb
    ·exact absurd hb (by decide)
    ·omega
theorem varsF_snoc (t : PTerm) : ∀ (l : List PTerm) (acc : List Str),varsF acc (l ++ [t]) = if t.var && !memS t.name (varsF acc l) then varsF acc l ++ [t.name] else varsF acc l
 | [],acc => rfl
 | x :: l,acc => by
  rw [List.cons_append,varsF,varsF]
  exact varsF_snoc t l _
theorem varsF_length : ∀ (l : List PTerm) (acc : List Str),(varsF acc l).length ≤ acc.length + l.length
 | [],acc => by simp [varsF]
 | t :: l,acc => by
  have := varsF_length l (if t.var && !memS t.name acc then acc ++ [t.name] else acc)
  rw [varsF]
  split at this
  ·simp only [List.length_append,List.length_cons,List.length_nil] at this
   rw [if_pos (by assumption)]
   simp only [List.length_cons];omega
  ·rw [if_neg (by assumption)]
   simp only [List.length_cons];omega
theorem heldOf_snoc (l : List PAtom) (a : PAtom) : heldOf (l ++ [a]) = if a.neg then heldOf l else heldOf l ++ varsOf a := by
 unfold heldOf
 rw [List.flatMap_append]
 cases h : a.neg <;> simp [h]
theorem allVars_snoc (l : List PAtom) (a : PAtom) : allVars (l ++ [a]) = allVars l ++ varsOf a := by
 unfold allVars
 rw [List.flatMap_append]
 simp
theorem firstBad_take (l : List PAtom) (k : Nat) (h : ∀ i a,i < k → l[i]? = some a → atomBad a = 0) : firstBad l = firstBad (l.drop k) := by
 induction k generalizing l with
 | zero => rfl
 | succ k ih =>
  cases l with
  | nil => rfl
  | cons a l =>
   have h0 := h 0 a (by omega) rfl
   rw [firstBad,if_neg (by simpa using h0),List.drop_succ_cons]
   exact ih l fun i b hi hb => h (i + 1) b (by omega) (by simpa using hb)
end
section
section
variable {α : Type} (c : α → α → Int)
def ltC (a b : α) : Bool := decide (c a b < 0)
def RisingC (l : List α) : Prop := l.Pairwise fun a b => ltC c a b = true
def addC [DecidableEq α] (f : α) : List α → List α
 | [] => [f]
 | g :: l => if ltC c f g then f :: g :: l else if f = g then g :: l else g :: addC f l
def ofC [DecidableEq α] (l : List α) : List α := l.foldr (addC c) []
def cmpLst : List α → List α → Int
 | [],[] => 0
 | [],_ :: _ => -1
 | _ :: _,[] => 1
 | a :: x,b :: y => if c a b ≠ 0 then c a b else cmpLst x y
end
section
variable {α : Type} {c : α → α → Int} (h3 : Cmp3 c)
include h3
theorem ltC_irrefl (f : α) : ltC c f f = false := by simp [ltC,h3.self]
theorem ltC_trans {f g d : α} (h : ltC c f g = true) (k : ltC c g d = true) : ltC c f d = true := by
 simp only [ltC,decide_eq_true_eq] at *;exact h3.trans _ _ _ h k
theorem ltC_asymm {f g : α} (h : ltC c f g = true) : ltC c g f = false := by
 simp only [ltC,decide_eq_true_eq,decide_eq_false_iff_not] at *;have := (h3.anti f g).1 h;omega
theorem ltC_tri {f g : α} (h : ltC c f g = false) (k : ltC c g f = false) : f = g := by
 simp only [ltC,decide_eq_false_iff_not] at *
 refine (h3.zero f g).1 ?_
 have := h3.anti g f
 omega
theorem addC_rising [DecidableEq α] (f : α) : ∀ l,RisingC c l → RisingC c (addC c f l) ∧ ∀ x,x ∈ addC c f l ↔ x = f ∨ x ∈ l
 | [],_ => by simp [addC,RisingC]
 | g :: l,h => by
  have hg := (List.pairwise_cons.1 h)
  unfold addC
  by_cases hl : ltC c f g = true
  ·rw [if_pos hl]
   refine ⟨List.pairwise_cons.2 ⟨fun x hx => ?_,h⟩,by simp⟩
   rcases List.mem_cons.1 hx with rfl | hx
   ·exact hl
   ·exact ltC_trans h3 hl (hg.1 x hx)
  ·rw [if_neg hl]
   by_cases e : f = g
   ·rw [if_pos e];subst e;exact ⟨h,by simp⟩
   ·rw [if_neg e]
    obtain ⟨ih,im⟩ := addC_rising f l hg.2
    refine ⟨List.pairwise_cons.2 ⟨fun x hx => ?_,ih⟩,fun x => ?_⟩
    ·rcases (im x).1 hx with rfl | hx
     ·cases hgf : ltC c g x
      ·exact absurd (ltC_tri h3 (by simpa using hl) hgf) e
      ·rfl
     ·exact hg.1 x hx
    ·simp only [List.mem_cons,im]
     constructor
     ·rintro (h | h | h) <;> simp [h]
     ·rintro (h | h | h) <;> simp [h]
theorem ofC_rising [DecidableEq α] (l : List α) : RisingC c (ofC c l) := by
 induction l with
 | nil => exact List.Pairwise.nil
 | cons f l ih => exact (addC_rising h3 f _ ih).1
theorem mem_ofC [DecidableEq α] (x : α) (l : List α) : x ∈ ofC c l ↔ x ∈ l := by
 induction l with
 | nil => simp [ofC]
 | cons f l ih =>
  show x ∈ addC c f (ofC c l) ↔ _
  rw [(addC_rising h3 f _ (ofC_rising h3 l)).2,ih,List.mem_cons]
theorem risingC_ext : ∀ {a b : List α},RisingC c a → RisingC c b → (∀ x,x ∈ a ↔ x ∈ b) → a = b
 | [],[],_,_,_ => rfl
 | [],y :: b,_,_,h => by have := (h y).2 (by simp);simp at this
 | x :: a,[],_,_,h => by have := (h x).1 (by simp);simp at this
 | x :: a,y :: b,ha,hb,h => by
  have ha' := List.pairwise_cons.1 ha
  have hb' := List.pairwise_cons.1 hb
  have e : x = y := by
   rcases List.mem_cons.1 ((h x).1 (by simp)) with e | hx
   ·exact e
   ·rcases List.mem_cons.1 ((h y).2 (by simp)) with e | hy
    ·exact e.symm
    ·have h1 := hb'.1 x hx
     have h2 := ha'.1 y hy
     rw [ltC_asymm h3 h1] at h2;cases h2
  subst e
  congr 1
  refine risingC_ext ha'.2 hb'.2 fun z => ?_
  constructor
  ·intro hz
   rcases List.mem_cons.1 ((h z).1 (by simp [hz])) with rfl | hz'
   ·have := ha'.1 z hz;rw [ltC_irrefl h3] at this;cases this
   ·exact hz'
  ·intro hz
   rcases List.mem_cons.1 ((h z).2 (by simp [hz])) with rfl | hz'
   ·have := hb'.1 z hz;rw [ltC_irrefl h3] at this;cases this
   ·exact hz'
theorem risingC_nodup {l : List α} (h : RisingC c l) : l.Nodup := h.imp fun {a b} hab e => by subst e;rw [ltC_irrefl h3] at hab;cases hab
theorem rising_of_sorted {l : List α} (hs : l.Pairwise fun a b => ¬ c b a < 0) (hn : l.Nodup) : RisingC c l :=
 (hs.and hn).imp fun {a b} ⟨h1,h2⟩ => by
  simp only [ltC,decide_eq_true_eq]
  have h4 := h3.ne_zero h2
  have := (h3.anti b a).2
  have := h3.anti a b
  omega
theorem cmpLst3 : Cmp3 (cmpLst c) where
 anti := by
  intro a
  induction a with
  | nil => intro b;cases b <;> simp [cmpLst]
  | cons a x ih =>
   intro b
   cases b with
   | nil => simp [cmpLst]
   | cons b y =>
    rw [cmpLst,cmpLst]
    by_cases h : a = b
    ·subst h;simp [h3.self,ih y]
    ·rw [if_pos (h3.ne_zero h),if_pos (h3.ne_zero (Ne.symm h))];exact h3.anti a b
 zero := by
  intro a
  induction a with
  | nil => intro b;cases b <;> simp [cmpLst]
  | cons a x ih =>
   intro b
   cases b with
   | nil => simp [cmpLst]
   | cons b y =>
    rw [cmpLst]
    by_cases h : a = b
    ·subst h;simp [h3.self,ih y]
    ·rw [if_pos (h3.ne_zero h)]
     simp [h,h3.ne_zero h]
 trans := by
  intro a
  induction a with
  | nil =>
   intro b d h k
   cases d with
   | nil => cases b <;> simp [cmpLst] at h k
   | cons d z => simp [cmpLst]
  | cons a x ih =>
   intro b d h k
   cases b with
   | nil => simp [cmpLst] at h
   | cons b y =>
    cases d with
    | nil => simp [cmpLst] at k
    | cons d z =>
     rw [cmpLst] at h k ⊢
     by_cases h1 : a = b
     ·subst h1
      rw [if_neg (by simp [h3.self])] at h
      by_cases h2 : a = d
      ·subst h2
       rw [if_neg (by simp [h3.self])] at k ⊢
       exact ih y z h k
      ·rw [if_pos (h3.ne_zero h2)] at k ⊢
       exact k
     ·rw [if_pos (h3.ne_zero h1)] at h
      by_cases h2 : b = d
      ·subst h2
       rw [if_pos (h3.ne_zero h1)]
       exact h
      ·rw [if_pos (h3.ne_zero h2)] at k
       have h4 := h3.trans a b d h k
       rw [if_pos (by omega)]
       exact h4
end
def cmpBind (a b : PBind) : Int := orInt [cmpStr a.var b.var,cmpStr a.name b.name]
theorem cmpBind_eq (a b : PBind) : cmpBind a b = if cmpStr a.var b.var ≠ 0 then cmpStr a.var b.var else cmpStr a.name b.name := by
 unfold cmpBind
 simp only [orInt]
 split
 ·rfl
 ·split
  ·rfl
  ·rename_i h;simp at h;exact h.symm
theorem cmpBind3 : Cmp3 cmpBind where
 anti a b := by
  rw [cmpBind_eq,cmpBind_eq]
  by_cases h : a.var = b.var
  ·rw [h,if_neg (by simp [cmpStr3.self]),if_neg (by simp [cmpStr3.self])];exact cmpStr3.anti _ _
  ·rw [if_pos (cmpStr3.ne_zero h),if_pos (cmpStr3.ne_zero (Ne.symm h))];exact cmpStr3.anti _ _
 zero a b := by
  rw [cmpBind_eq]
  obtain ⟨av,an⟩ := a
  obtain ⟨bv,bn⟩ := b
  by_cases h : av = bv
  ·subst h;simp [cmpStr3.self,cmpStr3.zero]
  ·rw [if_pos (cmpStr3.ne_zero h)];simp [h,cmpStr3.ne_zero h]
 trans a b d h k := by
  rw [cmpBind_eq] at *
  by_cases h1 : a.var = b.var
  ·rw [h1,if_neg (by simp [cmpStr3.self])] at h
   rw [h1]
   by_cases h2 : b.var = d.var
   ·rw [h2,if_neg (by simp [cmpStr3.self])] at k ⊢
    exact cmpStr3.trans _ _ _ h k
   ·rw [if_pos (cmpStr3.ne_zero h2)] at k ⊢
    exact k
  ·rw [if_pos (cmpStr3.ne_zero h1)] at h
   by_cases h2 : b.var = d.var
   ·rw [← h2,if_pos (cmpStr3.ne_zero h1)];exact h
   ·rw [if_pos (cmpStr3.ne_zero h2)] at k
    have h4 := cmpStr3.trans _ _ _ h k
    rw [if_pos (by omega)];exact h4
abbrev Binds := List PBind
def cmpBinds : Binds → Binds → Int := cmpLst cmpBind
theorem cmpBinds3 : Cmp3 cmpBinds := cmpLst3 cmpBind3
def getB (v : Str) : Binds → Option Str
 | [] => none
 | b :: l => if b.var = v then some b.name else getB v l
def valT (l : Binds) (t : PTerm) : Option Str := if t.var then getB t.name l else some t.name
def fillArgs (l : Binds) : List PTerm → Option (List Str)
 | [] => some []
 | t :: ts => match valT l t with
  | none => none
  | some n => (fillArgs l ts).map (n :: ·)
def fillP (a : PAtom) (l : Binds) : Option PFact := (fillArgs l a.terms).map fun x => ⟨a.name,x⟩
def meetL : Binds → List PTerm → List Str → Option Binds
 | l,[],_ => some l
 | _,_ :: _,[] => none
 | l,t :: ts,n :: ns => match valT l t with
  | none => meetL (l ++ [⟨t.name,n⟩]) ts ns
  | some m => if m = n then meetL l ts ns else none
def meetP (a : PAtom) (f : PFact) (l : Binds) : Option Binds := if a.name = f.name ∧ a.terms.length = f.args.length then meetL l a.terms f.args else none
def stepP (ls : List Binds) (a : PAtom) (fs : List PFact) : List Binds := ls.flatMap fun l => fs.filterMap fun f => meetP a f l
def goP (pick : Nat → List PFact) : Nat → List Binds → List PAtom → Option (List Binds)
 | _,ls,[] => some ls
 | i,ls,a :: b => if a.neg then goP pick (i + 1) ls b else if 20000 < (stepP ls a (pick i)).length then none else goP pick (i + 1) (stepP ls a (pick i)) b
def hitP (a : PAtom) (fs : List PFact) (l : Binds) : Bool := match fillP a l with
 | none => false
 | some f => memF f fs
def notP (pick : Nat → List PFact) : Nat → List Binds → List PAtom → List Binds
 | _,ls,[] => ls
 | i,ls,a :: b => notP pick (i + 1) (if a.neg then ls.filter (fun l => !hitP a (pick i) l) else ls) b
def tidyP (ls : List Binds) : List Binds := ofC cmpBinds (ls.map (ofC cmpBind))
def Vs (l : Binds) : List Str := l.map (·.var)
def Nd (l : Binds) : Prop := (Vs l).Nodup
theorem getB_none {v : Str} : ∀ {l : Binds},getB v l = none ↔ v ∉ Vs l
 | [] => by simp [getB,Vs]
 | b :: l => by
  have ih := getB_none (v := v) (l := l)
  unfold getB
  by_cases h : b.var = v
  ·simp [h,Vs]
  ·rw [if_neg h,ih]
   simp [Vs,Ne.symm h]
theorem getB_mem {v n : Str} : ∀ {l : Binds},getB v l = some n → ⟨v,n⟩ ∈ l
 | [],h => by simp [getB] at h
 | b :: l,h => by
  unfold getB at h
  by_cases hv : b.var = v
  ·rw [if_pos hv] at h
   obtain ⟨bv,bn⟩ := b
   simp only [Option.some.injEq] at h hv
   subst h;subst hv;simp
  ·rw [if_neg hv] at h
   exact List.mem_cons_of_mem _ (getB_mem h)
theorem getB_of_mem {v n : Str} : ∀ {l : Binds},Nd l → ⟨v,n⟩ ∈ l → getB v l = some n
 | [],_,h => by simp at h
 | b :: l,hn,h => by
  have hn' : (b.var :: Vs l).Nodup := hn
  rw [List.nodup_cons] at hn'
  unfold getB
  rcases List.mem_cons.1 h with rfl | h
  ·simp
  ·have : b.var ≠ v := fun e => hn'.1 (by rw [e];exact List.mem_map.2 ⟨_,h,rfl⟩)
   rw [if_neg this]
   exact getB_of_mem hn'.2 h
theorem getB_append {v : Str} {m : Binds} : ∀ {l : Binds},getB v (l ++ m) = (getB v l).or (getB v m)
 | [] => by simp [getB]
 | b :: l => by
  rw [List.cons_append,getB,getB]
  by_cases h : b.var = v
  ·simp [h]
  ·rw [if_neg h,if_neg h];exact getB_append
theorem getB_same {l m : Binds} (hl : Nd l) (hm : Nd m) (h : ∀ x,x ∈ l ↔ x ∈ m) (v : Str) : getB v l = getB v m := by
 cases hg : getB v l with
 | some n => exact (getB_of_mem hm ((h _).1 (getB_mem hg))).symm
 | none =>
  cases hk : getB v m with
  | none => rfl
  | some n => rw [getB_of_mem hl ((h _).2 (getB_mem hk))] at hg;cases hg
def SubB (l e : Binds) : Prop := ∀ v n,getB v l = some n → getB v e = some n
theorem SubB.append {l m : Binds} : SubB l (l ++ m) := fun v n h => by rw [getB_append,h];rfl
theorem SubB.trans {l m e : Binds} (h : SubB l m) (k : SubB m e) : SubB l e := fun v n hv => k v n (h v n hv)
theorem SubB.valT {l e : Binds} (h : SubB l e) {t : PTerm} {n : Str} (hv : valT l t = some n) : valT e t = some n := by
 unfold Go.Proofs.YtdngkcieckejoaaGreat.valT at *
 cases ht : t.var
 ·simpa [ht] using hv
 ·rw [ht] at hv;simp only [if_true] at hv ⊢;exact h _ _ hv
theorem SubB.fillArgs {l e : Binds} (h : SubB l e) : ∀ {ts : List PTerm} {ns : List Str},fillArgs l ts = some ns → fillArgs e ts = some ns
 | [],ns,hv => hv
 | t :: ts,ns,hv => by
  unfold Go.Proofs.YtdngkcieckejoaaGreat.fillArgs at hv ⊢
  cases ht : Go.Proofs.YtdngkcieckejoaaGreat.valT l t with
  | none => rw [ht] at hv;cases hv
  | some n =>
   rw [ht] at hv
   rw [h.valT ht]
   dsimp only at hv ⊢
   cases hr : Go.Proofs.YtdngkcieckejoaaGreat.fillArgs l ts with
   | none => rw [hr] at hv;cases hv
   | some r => rw [hr] at hv;rw [h.fillArgs hr];exact hv
theorem SubB.fillP {l e : Binds} (h : SubB l e) {a : PAtom} {f : PFact} (hf : fillP a l = some f) : fillP a e = some f := by
 unfold Go.Proofs.YtdngkcieckejoaaGreat.fillP at *
 cases hr : Go.Proofs.YtdngkcieckejoaaGreat.fillArgs l a.terms with
 | none => rw [hr] at hf;cases hf
 | some r => rw [hr] at hf;rw [h.fillArgs hr];exact hf
theorem fillP_name {a : PAtom} {f : PFact} {l : Binds} (h : fillP a l = some f) : a.name = f.name ∧ fillArgs l a.terms = some f.args := by
 unfold fillP at h
 cases hr : fillArgs l a.terms with
 | none => rw [hr] at h;cases h
 | some r => rw [hr] at h;obtain rfl := Option.some.inj h;exact ⟨rfl,rfl⟩
theorem fillArgs_len {l : Binds} : ∀ {ts : List PTerm} {ns : List Str},fillArgs l ts = some ns → ts.length = ns.length
 | [],ns,h => by obtain rfl := Option.some.inj h;rfl
 | t :: ts,ns,h => by
  unfold fillArgs at h
  cases hv : valT l t with
  | none => rw [hv] at h;cases h
  | some n =>
   rw [hv] at h
   dsimp only at h
   cases hr : fillArgs l ts with
   | none => rw [hr] at h;cases h
   | some r =>
    rw [hr] at h
    obtain rfl := Option.some.inj h
    simp [fillArgs_len hr]
theorem fillArgs_some {l : Binds} : ∀ {ts : List PTerm},(∀ t ∈ ts,t.var = true → t.name ∈ Vs l) → ∃ ns,fillArgs l ts = some ns
 | [],_ => ⟨[],rfl⟩
 | t :: ts,h => by
  obtain ⟨ns,hns⟩ := fillArgs_some (ts := ts) fun u hu => h u (by simp [hu])
  have : ∃ n,valT l t = some n := by
   unfold valT
   cases ht : t.var
   ·exact ⟨t.name,by simp⟩
   ·have := h t (by simp) ht
    cases hg : getB t.name l with
    | none => exact absurd this (getB_none.1 hg)
    | some n => exact ⟨n,by simp⟩
  obtain ⟨n,hn⟩ := this
  exact ⟨n :: ns,by unfold fillArgs;rw [hn,hns];rfl⟩
theorem fillArgs_vars {l : Binds} : ∀ {ts : List PTerm} {ns : List Str},fillArgs l ts = some ns → ∀ t ∈ ts,t.var = true → t.name ∈ Vs l
 | [],_,_,t,ht,_ => by simp at ht
 | u :: ts,ns,h,t,ht,hv => by
  unfold fillArgs at h
  cases hu : valT l u with
  | none => rw [hu] at h;cases h
  | some n =>
   rw [hu] at h
   dsimp only at h
   cases hr : fillArgs l ts with
   | none => rw [hr] at h;cases h
   | some r =>
    rcases List.mem_cons.1 ht with rfl | ht
    ·unfold valT at hu
     rw [if_pos hv] at hu
     exact List.mem_map.2 ⟨_,getB_mem hu,rfl⟩
    ·exact fillArgs_vars hr t ht hv
theorem nd_snoc {l : Binds} (h : Nd l) {v n : Str} (hv : v ∉ Vs l) : Nd (l ++ [⟨v,n⟩]) := by
 show (Vs (l ++ [⟨v,n⟩])).Nodup
 unfold Vs
 rw [List.map_append]
 refine List.nodup_append.2 ⟨h,by simp,?_⟩
 intro a ha b hb e
 simp only [List.map_cons,List.map_nil,List.mem_singleton] at hb
 subst hb;subst e
 exact hv ha
theorem meetL_spec : ∀ (ts : List PTerm) (ns : List Str) (l m : Binds),ts.length = ns.length → Nd l → meetL l ts ns = some m →
 Nd m ∧ SubB l m ∧ fillArgs m ts = some ns ∧ ∀ v,v ∈ Vs m ↔ v ∈ Vs l ∨ ∃ t ∈ ts,t.var = true ∧ t.name = v
 | [],ns,l,m,hl,hn,h => by
  obtain rfl : l = m := Option.some.inj h
  obtain rfl : ns = [] := List.length_eq_zero_iff.1 hl.symm
  exact ⟨hn,fun v n h => h,rfl,by simp⟩
 | t :: ts,[],l,m,hl,hn,h => by simp at hl
 | t :: ts,n :: ns,l,m,hl,hn,h => by
  have hl' : ts.length = ns.length := by simpa using hl
  unfold meetL at h
  cases hv : valT l t with
  | none =>
   rw [hv] at h
   dsimp only at h
   have htv : t.var = true := by unfold valT at hv;cases ht : t.var <;> simp [ht] at hv ⊢
   have hnew : t.name ∉ Vs l := by unfold valT at hv;rw [if_pos htv] at hv;exact getB_none.1 hv
   obtain ⟨h1,h2,h4,h5⟩ := meetL_spec ts ns _ m hl' (nd_snoc hn hnew) h
   have hval : valT m t = some n := by
    unfold valT
    rw [if_pos htv]
    exact h2 _ _ (getB_of_mem (nd_snoc hn hnew) (by simp))
   refine ⟨h1,SubB.append.trans h2,?_,fun v => ?_⟩
   ·unfold fillArgs;rw [hval,h4];rfl
   ·rw [h5]
    have e : v ∈ Vs (l ++ [⟨t.name,n⟩]) ↔ v ∈ Vs l ∨ v = t.name := by simp [Vs]
    rw [e]
    constructor
    ·rintro ((k | k) | ⟨u,hu,k⟩)
     ·exact .inl k
     ·exact .inr ⟨t,by simp,htv,k.symm⟩
     ·exact .inr ⟨u,by simp [hu],k⟩
    ·rintro (k | ⟨u,hu,k⟩)
     ·exact .inl (.inl k)
     ·rcases List.mem_cons.1 hu with e2 | hu
      ·rw [e2] at k;exact .inl (.inr k.2.symm)
      ·exact .inr ⟨u,hu,k⟩
  | some k =>
   rw [hv] at h
   dsimp only at h
   by_cases hk : k = n
   ·subst hk
    rw [if_pos rfl] at h
    obtain ⟨h1,h2,h4,h5⟩ := meetL_spec ts ns l m hl' hn h
    refine ⟨h1,h2,?_,fun v => ?_⟩
    ·unfold fillArgs;rw [h2.valT hv,h4];rfl
    ·rw [h5]
     constructor
     ·rintro (h | ⟨u,hu,h⟩)
      ·exact .inl h
      ·exact .inr ⟨u,by simp [hu],h⟩
     ·rintro (h | ⟨u,hu,h⟩)
      ·exact .inl h
      ·rcases List.mem_cons.1 hu with rfl | hu
       ·left
        unfold valT at hv
        rw [if_pos h.1] at hv
        rw [← h.2]
        exact List.mem_map.2 ⟨_,getB_mem hv,rfl⟩
       ·exact .inr ⟨u,hu,h⟩
   ·rw [if_neg hk] at h;cases h
theorem meetL_full : ∀ (ts : List PTerm) (ns : List Str) (l e : Binds),fillArgs e ts = some ns → SubB l e → ∃ m,meetL l ts ns = some m ∧ SubB m e
 | [],ns,l,e,h,hs => ⟨l,rfl,hs⟩
 | t :: ts,ns,l,e,h,hs => by
  unfold fillArgs at h
  cases hv : valT e t with
  | none => rw [hv] at h;cases h
  | some n =>
   rw [hv] at h
   dsimp only at h
   cases hr : fillArgs e ts with
   | none => rw [hr] at h;cases h
   | some r =>
    rw [hr] at h
    obtain rfl : n :: r = ns := Option.some.inj h
    unfold meetL
    cases hl : valT l t with
    | some k =>
     have := hs.valT hl
     rw [hv] at this
     obtain rfl := Option.some.inj this
     dsimp only
     rw [if_pos rfl]
     exact meetL_full ts r l e hr hs
    | none =>
     dsimp only
     have htv : t.var = true := by unfold valT at hl;cases ht : t.var <;> simp [ht] at hl ⊢
     refine meetL_full ts r _ e hr fun v m hm => ?_
     rw [getB_append] at hm
     cases hg : getB v l with
     | some k => rw [hg] at hm;exact hs v m (by rw [hg];exact hm)
     | none =>
      rw [hg] at hm
      simp only [Option.none_or,getB] at hm
      by_cases e1 : t.name = v
      ·rw [if_pos e1] at hm
       obtain rfl := Option.some.inj hm
       subst e1
       unfold valT at hv
       rwa [if_pos htv] at hv
      ·rw [if_neg e1] at hm;cases hm
end
section
theorem mem_varsF (v : Str) : ∀ (l : List PTerm) (acc : List Str),v ∈ varsF acc l ↔ v ∈ acc ∨ ∃ t ∈ l,t.var = true ∧ t.name = v
 | [],acc => by simp [varsF]
 | t :: l,acc => by
  rw [varsF,mem_varsF v l]
  have h : v ∈ (if t.var && !memS t.name acc then acc ++ [t.name] else acc) ↔ v ∈ acc ∨ (t.var = true ∧ t.name = v) := by
   by_cases ht : t.var = true
   ·by_cases hm : memS t.name acc = true
    ·rw [if_neg (by simp [hm])]
     constructor
     ·exact .inl
     ·rintro (h | ⟨-,rfl⟩)
      ·exact h
      ·exact (memS_iff _ _).1 hm
    ·rw [if_pos (by simp [ht,hm])]
     simp only [List.mem_append,List.mem_singleton]
     constructor
     ·rintro (h | h)
      ·exact .inl h
      ·exact .inr ⟨ht,h.symm⟩
     ·rintro (h | ⟨-,h⟩)
      ·exact .inl h
      ·exact .inr h.symm
   ·rw [if_neg (by simp [ht])]
    constructor
    ·exact .inl
    ·rintro (h | ⟨h,-⟩)
     ·exact h
     ·exact absurd h ht
  rw [h]
  constructor
  ·rintro ((h | h) | ⟨u,hu,h⟩)
   ·exact .inl h
   ·exact .inr ⟨t,by simp,h⟩
   ·exact .inr ⟨u,by simp [hu],h⟩
  ·rintro (k | ⟨u,hu,k⟩)
   ·exact .inl (.inl k)
   ·rcases List.mem_cons.1 hu with e | hu
    ·rw [e] at k;exact .inl (.inr k)
    ·exact .inr ⟨u,hu,k⟩
theorem mem_varsOf (v : Str) (a : PAtom) : v ∈ varsOf a ↔ ∃ t ∈ a.terms,t.var = true ∧ t.name = v := by
 unfold varsOf;rw [mem_varsF];simp
theorem mem_heldOf (v : Str) (l : List PAtom) : v ∈ heldOf l ↔ ∃ a ∈ l,a.neg = false ∧ v ∈ varsOf a := by
 unfold heldOf
 rw [List.mem_flatMap]
 constructor
 ·rintro ⟨a,ha,h⟩
  cases hn : a.neg
  ·rw [hn] at h;exact ⟨a,ha,hn,by simpa using h⟩
  ·rw [hn] at h;simp at h
 ·rintro ⟨a,ha,hn,h⟩
  exact ⟨a,ha,by rw [hn];simpa using h⟩
theorem body_free {l : List PAtom} (h : bodyBad l = 0) {a : PAtom} (ha : a ∈ l) {v : Str} (hv : v ∈ varsOf a) : v ∈ heldOf l := by
 unfold bodyBad at h
 split at h
 ·exact absurd h (by decide)
 ·split at h
  ·rename_i h1;exact absurd h h1
  ·split at h
   ·rename_i h1
    unfold freeIn at h1
    rw [List.all_eq_true] at h1
    have := h1 a ha
    rw [List.all_eq_true] at this
    exact (memS_iff _ _).1 (this v hv)
   ·exact absurd h (by decide)
theorem body_atoms {l : List PAtom} (h : bodyBad l = 0) : l.length ≤ 5 := by
 unfold bodyBad at h
 split at h
 ·exact absurd h (by decide)
 ·omega
section
variable {pick : Nat → List PFact}
theorem mem_stepP {ls : List Binds} {a : PAtom} {fs : List PFact} {m : Binds} : m ∈ stepP ls a fs ↔ ∃ l ∈ ls,∃ f ∈ fs,meetP a f l = some m := by
 unfold stepP
 simp [List.mem_flatMap,List.mem_filterMap]
theorem goP_sound : ∀ (body : List PAtom) (i : Nat) (ls out : List Binds),goP pick i ls body = some out → (∀ l ∈ ls,Nd l) →
 ∀ m ∈ out,∃ l ∈ ls,Nd m ∧ SubB l m ∧ (∀ v,v ∈ Vs m ↔ v ∈ Vs l ∨ ∃ a ∈ body,a.neg = false ∧ v ∈ varsOf a) ∧
  ∀ j a,body[j]? = some a → a.neg = false → ∃ f,fillP a m = some f ∧ f ∈ pick (i + j)
 | [],i,ls,out,h,hn,m,hm => by
  obtain rfl := Option.some.inj h
  exact ⟨m,hm,hn m hm,fun v n h => h,by simp,by simp⟩
 | a :: b,i,ls,out,h,hn,m,hm => by
  unfold goP at h
  cases hneg : a.neg
  ·rw [if_neg (by simp [hneg])] at h
   split at h
   ·cases h
   ·have hn1 : ∀ l ∈ stepP ls a (pick i),Nd l := fun l hl => by
     obtain ⟨l0,h0,f,hf,hm⟩ := mem_stepP.1 hl
     unfold meetP at hm
     split at hm
     ·rename_i hc;exact (meetL_spec _ _ _ _ hc.2 (hn l0 h0) hm).1
     ·cases hm
    obtain ⟨l1,hl1,g1,g2,g3,g4⟩ := goP_sound b (i + 1) _ out h hn1 m hm
    obtain ⟨l0,h0,f,hf,hmt⟩ := mem_stepP.1 hl1
    unfold meetP at hmt
    split at hmt
    ·rename_i hc
     obtain ⟨k1,k2,k3,k4⟩ := meetL_spec _ _ _ _ hc.2 (hn l0 h0) hmt
     refine ⟨l0,h0,g1,k2.trans g2,fun v => ?_,fun j x hx hxn => ?_⟩
     ·rw [g3,k4]
      constructor
      ·rintro ((h | h) | ⟨x,hx,h⟩)
       ·exact .inl h
       ·exact .inr ⟨a,by simp,hneg,(mem_varsOf v a).2 h⟩
       ·exact .inr ⟨x,by simp [hx],h⟩
      ·rintro (h | ⟨x,hx,h⟩)
       ·exact .inl (.inl h)
       ·rcases List.mem_cons.1 hx with e | hx
        ·rw [e] at h;exact .inl (.inr ((mem_varsOf v a).1 h.2))
        ·exact .inr ⟨x,hx,h⟩
     ·cases j with
      | zero =>
       obtain rfl : a = x := by simpa using hx
       refine ⟨f,?_,hf⟩
       refine g2.fillP ?_
       unfold fillP
       rw [k3,hc.1]
       rfl
      | succ j =>
       obtain ⟨f',h1,h2⟩ := g4 j x (by simpa using hx) hxn
       exact ⟨f',h1,by rw [show i + (j + 1) = i + 1 + j by omega];exact h2⟩
    ·cases hmt
  ·rw [if_pos (by simp [hneg])] at h
   obtain ⟨l1,hl1,g1,g2,g3,g4⟩ := goP_sound b (i + 1) ls out h hn m hm
   refine ⟨l1,hl1,g1,g2,fun v => ?_,fun j x hx hxn => ?_⟩
   ·rw [g3]
    constructor
    ·rintro (h | ⟨x,hx,h⟩)
     ·exact .inl h
     ·exact .inr ⟨x,by simp [hx],h⟩
    ·rintro (h | ⟨x,hx,h⟩)
     ·exact .inl h
     ·rcases List.mem_cons.1 hx with e | hx
      ·rw [e,hneg] at h;cases h.1
      ·exact .inr ⟨x,hx,h⟩
   ·cases j with
    | zero =>
     obtain rfl : a = x := by simpa using hx
     rw [hneg] at hxn;cases hxn
    | succ j =>
     obtain ⟨f',h1,h2⟩ := g4 j x (by simpa using hx) hxn
     exact ⟨f',h1,by rw [show i + (j + 1) = i + 1 + j by omega];exact h2⟩
theorem goP_full : ∀ (body : List PAtom) (i : Nat) (ls out : List Binds) (e : Binds),goP pick i ls body = some out →
 (∀ j a,body[j]? = some a → a.neg = false → ∃ f,fillP a e = some f ∧ f ∈ pick (i + j)) → (∃ l ∈ ls,SubB l e) → ∃ m ∈ out,SubB m e
 | [],i,ls,out,e,h,_,hs => by obtain rfl := Option.some.inj h;exact hs
 | a :: b,i,ls,out,e,h,hf,⟨l,hl,hs⟩ => by
  have hf' : ∀ j x,b[j]? = some x → x.neg = false → ∃ f,fillP x e = some f ∧ f ∈ pick (i + 1 + j) := fun j x hx hn => by
   obtain ⟨f,h1,h2⟩ := hf (j + 1) x (by simpa using hx) hn
   exact ⟨f,h1,by rw [show i + 1 + j = i + (j + 1) by omega];exact h2⟩
  unfold goP at h
  cases hneg : a.neg
  ·rw [if_neg (by simp [hneg])] at h
   split at h
   ·cases h
   ·refine goP_full b (i + 1) _ out e h hf' ?_
    obtain ⟨f,h1,h2⟩ := hf 0 a rfl hneg
    obtain ⟨k1,k2⟩ := fillP_name h1
    obtain ⟨m,hm,hsm⟩ := meetL_full a.terms f.args l e k2 hs
    refine ⟨m,mem_stepP.2 ⟨l,hl,f,h2,?_⟩,hsm⟩
    unfold meetP
    rw [if_pos ⟨k1,fillArgs_len k2⟩]
    exact hm
  ·rw [if_pos (by simp [hneg])] at h
   exact goP_full b (i + 1) ls out e h hf' ⟨l,hl,hs⟩
theorem mem_notP : ∀ (body : List PAtom) (i : Nat) (ls : List Binds) (l : Binds),l ∈ notP pick i ls body ↔ l ∈ ls ∧ ∀ j a,body[j]? = some a → a.neg = true → hitP a (pick (i + j)) l = false
 | [],i,ls,l => by simp [notP]
 | a :: b,i,ls,l => by
  unfold notP
  rw [mem_notP b]
  cases hneg : a.neg
  ·rw [if_neg (by simp)]
   constructor
   ·rintro ⟨h1,h2⟩
    refine ⟨h1,fun j x hx hn => ?_⟩
    cases j with
    | zero => obtain rfl : a = x := by simpa using hx
              rw [hneg] at hn;cases hn
    | succ j => rw [show i + (j + 1) = i + 1 + j by omega];exact h2 j x (by simpa using hx) hn
   ·rintro ⟨h1,h2⟩
    exact ⟨h1,fun j x hx hn => by rw [show i + 1 + j = i + (j + 1) by omega];exact h2 (j + 1) x (by simpa using hx) hn⟩
  ·rw [if_pos rfl]
   simp only [List.mem_filter,Bool.not_eq_true']
   constructor
   ·rintro ⟨⟨h1,h3⟩,h2⟩
    refine ⟨h1,fun j x hx hn => ?_⟩
    cases j with
    | zero => obtain rfl : a = x := by simpa using hx
              exact h3
    | succ j => rw [show i + (j + 1) = i + 1 + j by omega];exact h2 j x (by simpa using hx) hn
   ·rintro ⟨h1,h2⟩
    exact ⟨⟨h1,h2 0 a rfl hneg⟩,fun j x hx hn => by rw [show i + 1 + j = i + (j + 1) by omega];exact h2 (j + 1) x (by simpa using hx) hn⟩
end
theorem fillP_same {l m : Binds} (h : ∀ v,getB v l = getB v m) (a : PAtom) : fillP a l = fillP a m := by
 have hv : ∀ t,valT l t = valT m t := fun t => by unfold valT;rw [h]
 have : ∀ ts,fillArgs l ts = fillArgs m ts := fun ts => by
  induction ts with
  | nil => rfl
  | cons t ts ih => unfold fillArgs;rw [hv,ih]
 unfold fillP
 rw [this]
theorem nd_inj {l : Binds} (h : Nd l) {a b : PBind} (ha : a ∈ l) (hb : b ∈ l) (hv : a.var = b.var) : a = b := by
 have h1 := getB_of_mem h (v := a.var) (n := a.name) ha
 have h2 := getB_of_mem h (v := b.var) (n := b.name) hb
 rw [hv,h2] at h1
 obtain ⟨av,an⟩ := a
 obtain ⟨bv,bn⟩ := b
 simp only [Option.some.injEq] at h1 hv
 rw [h1,hv]
theorem nd_ofC {l : Binds} (h : Nd l) : Nd (ofC cmpBind l) := by
 show (List.map _ _).Nodup
 unfold List.Nodup
 rw [List.pairwise_map]
 refine (risingC_nodup cmpBind3 (ofC_rising cmpBind3 l)).imp_of_mem fun {a b} ha hb hne hv => hne ?_
 exact nd_inj h ((mem_ofC cmpBind3 _ _).1 ha) ((mem_ofC cmpBind3 _ _).1 hb) hv
theorem getB_ofC {l : Binds} (h : Nd l) (v : Str) : getB v (ofC cmpBind l) = getB v l := getB_same (nd_ofC h) h (fun x => mem_ofC cmpBind3 x l) v
theorem vs_ofC {l : Binds} (v : Str) : v ∈ Vs (ofC cmpBind l) ↔ v ∈ Vs l := by
 unfold Vs
 simp only [List.mem_map,mem_ofC cmpBind3]
theorem length_addC {α : Type} [DecidableEq α] {c : α → α → Int} (f : α) : ∀ l : List α,f ∉ l → (addC c f l).length = l.length + 1
 | [],_ => rfl
 | g :: l,h => by
  unfold addC
  split
  ·rfl
  ·rw [if_neg (fun e => h (by simp [e]))]
   rw [List.length_cons,length_addC f l (fun hm => h (by simp [hm])),List.length_cons]
theorem length_ofC {α : Type} [DecidableEq α] {c : α → α → Int} (h3 : Cmp3 c) : ∀ l : List α,l.Nodup → (ofC c l).length = l.length
 | [],_ => rfl
 | f :: l,h => by
  rw [List.nodup_cons] at h
  show (addC c f (ofC c l)).length = _
  rw [length_addC f _ (fun hm => h.1 ((mem_ofC h3 _ _).1 hm)),length_ofC h3 l h.2,List.length_cons]
theorem nd_nodup {l : Binds} (h : Nd l) : l.Nodup := by
 have h' : (l.map (·.var)).Pairwise (· ≠ ·) := h
 rw [List.pairwise_map] at h'
 exact h'.imp fun hne e => hne (by rw [e])
def Told (pick : Nat → List PFact) (body : List PAtom) (m : Binds) : Prop :=
 RisingC cmpBind m ∧ Nd m ∧ (∀ v,v ∈ Vs m ↔ ∃ a ∈ body,v ∈ varsOf a) ∧ ∀ j a,body[j]? = some a → ∃ f,fillP a m = some f ∧ memF f (pick j) = !a.neg
theorem mem_tidyP {ls : List Binds} {m : Binds} : m ∈ tidyP ls ↔ ∃ l ∈ ls,ofC cmpBind l = m := by
 unfold tidyP
 rw [mem_ofC cmpBinds3,List.mem_map]
theorem tidyP_rising (ls : List Binds) : RisingC cmpBinds (tidyP ls) := ofC_rising cmpBinds3 _
theorem told_iff {pick : Nat → List PFact} {body : List PAtom} {ls : List Binds} (hb : bodyBad body = 0) (hg : goP pick 0 [[]] body = some ls) (m : Binds) :
 m ∈ tidyP (notP pick 0 ls body) ↔ Told pick body m := by
 have hvars : ∀ v,(∃ a ∈ body,a.neg = false ∧ v ∈ varsOf a) ↔ ∃ a ∈ body,v ∈ varsOf a := fun v => by
  constructor
  ·rintro ⟨a,ha,-,h⟩;exact ⟨a,ha,h⟩
  ·rintro ⟨a,ha,h⟩;exact (mem_heldOf v body).1 (body_free hb ha h)
 have hnd : ∀ l ∈ [([] : Binds)],Nd l := fun l hl => by
  obtain rfl := List.mem_singleton.1 hl
  exact List.Pairwise.nil
 rw [mem_tidyP]
 constructor
 ·rintro ⟨l,hl,rfl⟩
  obtain ⟨h1,h2⟩ := (mem_notP body 0 ls l).1 hl
  obtain ⟨l0,h0,g1,-,g3,g4⟩ := goP_sound body 0 _ _ hg hnd l h1
  obtain rfl := List.mem_singleton.1 h0
  have hV : ∀ v,v ∈ Vs l ↔ ∃ a ∈ body,v ∈ varsOf a := fun v => by
   rw [g3,hvars]
   constructor
   ·rintro (h | h)
    ·simp [Vs] at h
    ·exact h
   ·exact .inr
  refine ⟨ofC_rising cmpBind3 l,nd_ofC g1,fun v => (vs_ofC v).trans (hV v),fun j a ha => ?_⟩
  rw [fillP_same (getB_ofC g1)]
  cases hn : a.neg
  ·obtain ⟨f,k1,k2⟩ := g4 j a ha hn
   exact ⟨f,k1,by rw [(memF_iff _ _).2 (by simpa using k2)];rfl⟩
  ·have hm := List.mem_of_getElem? ha
   obtain ⟨ns,hns⟩ := fillArgs_some (l := l) (ts := a.terms) fun t ht hv => (hV _).2 ⟨a,hm,(mem_varsOf _ a).2 ⟨t,ht,hv,rfl⟩⟩
   have hf : fillP a l = some ⟨a.name,ns⟩ := by unfold fillP;rw [hns];rfl
   refine ⟨_,hf,?_⟩
   have := h2 j a ha hn
   unfold hitP at this
   rw [hf] at this
   simpa using this
 ·rintro ⟨h1,h2,h3,h4⟩
  obtain ⟨l,hl,hs⟩ := goP_full body 0 _ _ m hg (fun j a ha hn => by
   obtain ⟨f,k1,k2⟩ := h4 j a ha
   rw [hn] at k2
   exact ⟨f,k1,by simpa using (memF_iff _ _).1 k2⟩) ⟨[],by simp,fun v n h => by simp [getB] at h⟩
  obtain ⟨l0,h0,g1,-,g3,g4⟩ := goP_sound body 0 _ _ hg hnd l hl
  obtain rfl := List.mem_singleton.1 h0
  have hV : ∀ v,v ∈ Vs l ↔ v ∈ Vs m := fun v => by
   rw [g3,hvars,h3]
   constructor
   ·rintro (h | h)
    ·simp [Vs] at h
    ·exact h
   ·exact .inr
  have hmem : ∀ x,x ∈ l ↔ x ∈ m := fun x => by
   constructor
   ·intro hx
    exact getB_mem (hs _ _ (getB_of_mem g1 (v := x.var) (n := x.name) hx))
   ·intro hx
    have hv : x.var ∈ Vs l := (hV _).2 (List.mem_map.2 ⟨x,hx,rfl⟩)
    cases hg : getB x.var l with
    | none => exact absurd hv (getB_none.1 hg)
    | some n =>
     have k1 := hs _ _ hg
     rw [getB_of_mem h2 (v := x.var) (n := x.name) hx] at k1
     obtain rfl := Option.some.inj k1
     exact getB_mem hg
  refine ⟨l,(mem_notP body 0 ls l).2 ⟨hl,fun j a ha hn => ?_⟩,risingC_ext cmpBind3 (ofC_rising cmpBind3 l) h1 fun x => (mem_ofC cmpBind3 x l).trans (hmem x)⟩
  obtain ⟨f,k1,k2⟩ := h4 j a ha
  unfold hitP
  rw [fillP_same (fun v => getB_same g1 h2 hmem v),k1]
  simpa [hn] using k2
end
end Go.Proofs.YtdngkcieckejoaaGreat
