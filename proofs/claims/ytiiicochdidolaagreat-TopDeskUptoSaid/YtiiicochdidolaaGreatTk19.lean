/-
  THE TEXTS NaiveK, ProofChk, ProofF, one behind the other.
-/
import Derived.Test.YtiiicochdidolaaGreatTk15
import Derived.Test.YtiiicochdidolaaGreatTk18
import Derived.Test.YtiiicochdidolaaGreatChecked
namespace Go.Proofs.YtiiicochdidolaaGreat
open Go.RowKit Go.ChangeShapes Go.WideShapes Go.Deep
theorem naiveReads {S S3 : Nat → Prop} (p : List PRule) (v fv : Value) (st : List Int) (q : Int × Int) (l : List PFact) (w : World) (hS : StrataIs p st q) (h : RdRules S w v p) (hf : RdFacts S3 w fv l)
    (n1 : p.length ≤ 1048576) (n2 : ∀ r ∈ p,RuleSmall r) (n3 : ∀ r ∈ p,NameSmall r) (n4 : l.length ≤ 1048576) (n5 : ∀ x ∈ l,x.args.length ≤ 1048576) :
    Calls Tryz.prog 38 #[v,fv] w fun e w' => (∃ a c,e = .returned (.tuple #[.slice a (naiveP st q.1 p l).1.length c,.int .i64 (naiveP st q.1 p l).2]) ∧ RdFacts (fun _ => True) w' (.slice a (naiveP st q.1 p l).1.length c) (naiveP st q.1 p l).1) ∧ Below w.heap.size w w' :=
  naiveKnown rfl hS rfl h hf n1 n2 n3 n4 n5
theorem lessReads {S T : Nat → Prop} {va vb : Value} {l m : List PFact} {w : World} (h : RdFacts S w va l) (hm : RdFacts T w vb m) (hs : Rising m) (n1 : l.length ≤ 1048576) (n2 : ∀ x ∈ l,x.args.length ≤ 1048576) (n3 : m.length ≤ 1048576) (n4 : ∀ x ∈ m,x.args.length ≤ 1048576) :
    Calls Tryz.prog 14 #[va,vb] w fun e w' => (∃ a c,e = .returned (.slice a (lessF l m).length c) ∧ RdFacts (fun _ => True) w' (.slice a (lessF l m).length c) (lessF l m)) ∧ Below w.heap.size w w' :=
  (lessCalls va vb l m w h hm hs (by omega) (fun x hx => by have := n2 x hx;omega) (by omega) (fun x hx => by have := n4 x hx;omega)).mono fun e w' ⟨⟨v',he,ho⟩,hb⟩ => by
    have h' := (ho.read RFact.steady).more RFact.steady (S' := fun _ => True) (fun _ _ _ => trivial)
    obtain ⟨a,c,rfl,-,-,-⟩ := id h'.form
    exact ⟨⟨a,c,he,h'⟩,hb⟩
theorem RdRules.pick {S : Nat → Prop} {w : World} {a : Option Addr} {n cap : Nat} {l : List PRule} (h : RdRules S w (.slice a n cap) l) {i : Nat} {x : PRule} (hx : l[i]? = some x) :
    ∃ b o ta tc ba bc,a = some ⟨b,o,none⟩ ∧ RuleAt S w b (o + i * 4) x (.slice ta x.head.terms.length tc) (.slice ba x.body.length bc) := by
  obtain ⟨b1,o1,tv,bv,rfl,-,hb1,d0,d1,d2,d3,htv,hbv⟩ := RdRules.at h hx
  obtain ⟨ta,tc,rfl,-,-,-⟩ := id htv.form
  obtain ⟨ba,bc,rfl,-,-,-⟩ := id hbv.form
  exact ⟨b1,o1,ta,tc,ba,bc,rfl,hb1,d0,d1,d2,d3,htv,hbv⟩
end Go.Proofs.YtiiicochdidolaaGreat
namespace Go.Proofs.YtiiicochdidolaaGreat
open Go.RowKit
theorem rules_terms {p : List PRule} (h : ∀ r ∈ p,ruleBad r = 0) : ∀ r ∈ p,r.head.terms.length ≤ 4 ∧ r.body.length ≤ 5 ∧ ∀ a ∈ r.body,a.terms.length ≤ 4 := fun r hr => by
  obtain ⟨h1,-,h3,-⟩ := ruleBad_zero (h r hr)
  exact ⟨(atomBad_zero h1).2.1,body_atoms h3,fun a ha => body_terms h3 ha⟩
end Go.Proofs.YtiiicochdidolaaGreat
namespace Go.Proofs.YtiiicochdidolaaGreat
def subT (b : Binds) (t : PTerm) : PTerm := if t.var then (match getB t.name b with
  | some n => ⟨false,n⟩
  | none => t) else t
def subA (b : Binds) (a : PAtom) : PAtom := ⟨a.neg,a.name,a.terms.map (subT b)⟩
def subBody (b : Binds) (l : List PAtom) : List PAtom := l.map (subA b)
def kidsOf (body : List PAtom) (b : Binds) : List PFact := body.filterMap fun a => if a.neg then none else fillP a b
def ageOf (age : Str → Option Int) (f : PFact) : Int := (age (keyP f)).getD 0
def olderP (age : Str → Option Int) (f k : PFact) : Bool := decide (ageOf age k < ageOf age f)
def ruleG (age : Str → Option Int) (M : List PFact) (r : PRule) (f : PFact) : Option (List PFact) := match meetP r.head f [] with
  | none => none
  | some s => if (allP (subBody s r.body) M).2 ≠ 0 then none else ((allP (subBody s r.body) M).1.find? fun b => (kidsOf (subBody s r.body) b).all (olderP age f)).map (kidsOf (subBody s r.body))
def pickRule (age : Str → Option Int) (M : List PFact) (f : PFact) : Nat → List PRule → Option (Nat × List PFact)
  | _,[] => none
  | i,r :: p => match ruleG age M r f with
    | some ks => some (i,ks)
    | none => pickRule age M f (i + 1) p
def kidsAcc (F : Nat → PFact → Option PProof × Nat) : List PProof → Nat → List PFact → Option (List PProof) × Nat
  | xs,s,[] => (some xs,s)
  | xs,s,k :: l => match F s k with
    | (none,s') => (none,s')
    | (some x,s') => kidsAcc F (xs ++ [x]) s' l
def findN (p : List PRule) (told M : List PFact) (age : Str → Option Int) : Nat → Nat → PFact → Nat → Option PProof × Nat
  | 0,s,_,_ => (none,s)
  | n + 1,s,f,d => if 400 < s + 1 ∨ 60 < d then (none,s + 1) else if memF f told then (some (.mk f (-1) []),s + 1) else match pickRule age M f 0 p with
    | none => (none,s + 1)
    | some (i,ks) => match kidsAcc (fun s k => findN p told M age n s k (d + 1)) [] (s + 1) ks with
      | (none,s') => (none,s')
      | (some xs,s') => (some (.mk f i xs),s')
end Go.Proofs.YtiiicochdidolaaGreat
