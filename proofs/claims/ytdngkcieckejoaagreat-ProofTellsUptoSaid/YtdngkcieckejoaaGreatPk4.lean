/-
  THE TEXTS NaiveQ, NaiveA, NaiveR, NaiveM, ProofP, Lit, SynP, SynW1, SynW2, RowCut, SynW3, CheckW1, one behind the other.
-/
import Derived.Test.YtdngkcieckejoaaGreatPk1
import Derived.Test.YtdngkcieckejoaaGreatPk2
import Derived.Test.YtdngkcieckejoaaGreatPk3
import Derived.Deep.QuietTactic
import Derived.BigQuiet
import Derived.Lib.PathFns
import Derived.Lib.IndexBytes
import Derived.Deep.DeepCutAuto
import Derived.Deep.RegionLaw
namespace Go.Proofs.YtdngkcieckejoaaGreat
section
def Derives (r : PRule) (O : List PFact) (x : PFact) : Prop := ∃ m,Told (fun _ => O) r.body m ∧ fillP r.head m = some x
theorem Derives.name {r : PRule} {O : List PFact} {x : PFact} (h : Derives r O x) : x.name = r.head.name := by
 obtain ⟨m,-,h⟩ := h
 exact (fillP_name h).1.symm
theorem Derives.agree {r : PRule} {O M : List PFact} {x : PFact} (h : Derives r O x) (ha : ∀ a ∈ r.body,∀ f : PFact,f.name = a.name → (f ∈ O ↔ f ∈ M)) : Derives r M x := by
 obtain ⟨m,h1,h2⟩ := h
 exact ⟨m,told_agree ha h1,h2⟩
theorem Derives.grow {r : PRule} {O M : List PFact} {x : PFact} (h : Derives r O x) (hp : ∀ f ∈ O,f ∈ M) (hn : ∀ a ∈ r.body,a.neg = true → ∀ f : PFact,f.name = a.name → f ∈ M → f ∈ O) : Derives r M x := by
 obtain ⟨m,⟨h1,h2,h3,h4⟩,h5⟩ := h
 refine ⟨m,⟨h1,h2,h3,fun j a ha => ?_⟩,h5⟩
 obtain ⟨f,k1,k2⟩ := h4 j a ha
 refine ⟨f,k1,?_⟩
 have hm := ζm ha
 cases hneg : a.neg
 ·rw [hneg] at k2
  have : f ∈ O := (memF_iff _ _).1 (by simpa using k2)
  rw [(memF_iff _ _).2 (hp f this)];rfl
 ·rw [hneg] at k2
  have hno : ¬ f ∈ O := fun hf => by rw [(memF_iff _ _).2 hf] at k2;simp at k2
  have hno' : ¬ f ∈ M := fun hf => hno (hn a hm hneg f (fillP_name k1).1.symm hf)
  cases hmf : memF f M
  ·rfl
  ·exact absurd ((memF_iff _ _).1 hmf) hno'
theorem fillArgs_of {l : Binds} : ∀ {ts : List PTerm} {ns : List Str},fillArgs l ts = some ns → ∀ n ∈ ns,∃ t ∈ ts,valT l t = some n
 | [],ns,h,n,hn => by obtain rfl := Option.some.inj h;simp at hn
 | u :: ts,ns,h,n,hn => by
  unfold fillArgs at h
  cases hu : valT l u with
  | none => rw [hu] at h;cases h
  | some m =>
   rw [hu] at h
   dsimp only at h
   cases hr : fillArgs l ts with
   | none => rw [hr] at h;cases h
   | some r =>
    rw [hr] at h
    obtain rfl := Option.some.inj h
    rcases List.mem_cons.1 hn with rfl | hn
    ·exact ⟨u,by simp,hu⟩
    ·obtain ⟨t,h1,h2⟩ := fillArgs_of hr n hn
     exact ⟨t,by simp [h1],h2⟩
theorem fillArgs_to {l : Binds} : ∀ {ts : List PTerm} {ns : List Str},fillArgs l ts = some ns → ∀ t ∈ ts,∃ n ∈ ns,valT l t = some n
 | u :: ts,ns,h,t,ht => by
  unfold fillArgs at h
  cases hu : valT l u with
  | none => rw [hu] at h;cases h
  | some m =>
   rw [hu] at h
   dsimp only at h
   cases hr : fillArgs l ts with
   | none => rw [hr] at h;cases h
   | some r =>
    rw [hr] at h
    obtain rfl := Option.some.inj h
    rcases List.mem_cons.1 ht with rfl | ht
    ·exact ⟨m,by simp,hu⟩
    ·obtain ⟨n,h1,h2⟩ := fillArgs_to hr t ht
     exact ⟨n,by simp [h1],h2⟩
theorem wrongF_zero {f : PFact} : wrongF f = 0 ↔ named f.name = true ∧ f.args.length ≤ 4 ∧ ∀ n ∈ f.args,named n = true := by
 unfold wrongF
 cases h1 : named f.name
 ·simp
 ·rw [if_neg (by simp)]
  by_cases h2 : 4 < f.args.length
  ·rw [if_pos h2];simp;omega
  ·rw [if_neg h2]
   cases h3 : f.args.all named
   ·rw [if_neg (by simp)]
    simp only [true_and]
    constructor
    ·intro h;exact absurd h (by decide)
    ·rintro ⟨-,h⟩
     rw [List.all_eq_true.2 h] at h3;cases h3
   ·rw [if_pos rfl]
    simp only [true_and,true_iff]
    exact ⟨by omega,List.all_eq_true.1 h3⟩
theorem atomBad_zero {a : PAtom} (h : atomBad a = 0) : named a.name = true ∧ a.terms.length ≤ 4 ∧ ∀ t ∈ a.terms,termOk t = true := by
 unfold atomBad at h
 cases h1 : named a.name
 ·rw [if_pos h1] at h;exact absurd h (by decide)
 ·rw [if_neg (by simp [h1])] at h
  by_cases h2 : 4 < a.terms.length
  ·rw [if_pos h2] at h;exact absurd h (by decide)
  ·rw [if_neg h2] at h
   by_cases h3 : a.terms.all termOk = true
   ·exact ⟨rfl,by omega,List.all_eq_true.1 h3⟩
   ·rw [if_neg h3] at h;exact absurd h (by decide)
theorem ruleBad_zero {r : PRule} (h : ruleBad r = 0) : atomBad r.head = 0 ∧ r.head.neg = false ∧ bodyBad r.body = 0 ∧ ∀ v ∈ varsOf r.head,∃ a ∈ r.body,v ∈ varsOf a := by
 unfold ruleBad at h
 by_cases h1 : atomBad r.head = 0
 case neg => rw [if_pos h1] at h;exact absurd h h1
 rw [if_neg (by simpa using h1)] at h
 cases h2 : r.head.neg
 case true => rw [if_pos h2] at h;exact absurd h (by decide)
 rw [if_neg (by simp [h2])] at h
 by_cases h3 : bodyBad r.body = 0
 case neg => rw [if_pos h3] at h;exact absurd h h3
 rw [if_neg (by simpa using h3)] at h
 refine ⟨h1,rfl,h3,fun v hv => ?_⟩
 by_cases h4 : (varsOf r.head).all (fun v => memS v (allVars r.body)) = true
 ·have := List.all_eq_true.1 h4 v hv
  have hm := (memS_iff _ _).1 this
  unfold allVars at hm
  obtain ⟨a,ha,hva⟩ := List.mem_flatMap.1 hm
  exact ⟨a,ha,hva⟩
 ·rw [if_neg h4] at h;exact absurd h (by decide)
theorem derives_good {r : PRule} {O : List PFact} {x : PFact} (hr : ruleBad r = 0) (hO : ∀ f ∈ O,wrongF f = 0) (h : Derives r O x) : wrongF x = 0 := by
 obtain ⟨m,⟨-,hnd,hvs,htold⟩,hf⟩ := h
 obtain ⟨h1,-,h3,-⟩ := ruleBad_zero hr
 obtain ⟨g1,g2,g3⟩ := atomBad_zero h1
 obtain ⟨k1,k2⟩ := fillP_name hf
 refine wrongF_zero.2 ⟨by rw [← k1];exact g1,by have := fillArgs_len k2;omega,fun n hn => ?_⟩
 obtain ⟨t,ht,hv⟩ := fillArgs_of k2 n hn
 have hok := g3 t ht
 unfold valT at hv
 cases htv : t.var
 ·rw [htv] at hv
  obtain rfl : t.name = n := by simpa using hv
  unfold termOk at hok
  rw [htv] at hok
  simpa using hok
 ·rw [htv] at hv
  simp only [if_true] at hv
  have hm : t.name ∈ Vs m := List.mem_map.2 ⟨_,getB_mem hv,rfl⟩
  obtain ⟨a,ha,hva⟩ := (hvs _).1 hm
  obtain ⟨a,ha,hneg,hva⟩ := (mem_heldOf _ _).1 (body_free h3 ha hva)
  obtain ⟨j,hj⟩ := List.mem_iff_getElem?.1 ha
  obtain ⟨f,q1,q2⟩ := htold j a hj
  rw [hneg] at q2
  have hfO : f ∈ O := (memF_iff _ _).1 (by simpa using q2)
  obtain ⟨u,hu,huv,hun⟩ := (mem_varsOf _ a).1 hva
  obtain ⟨n',hn',hv'⟩ := fillArgs_to (fillP_name q1).2 u hu
  unfold valT at hv'
  rw [if_pos huv,hun,hv] at hv'
  obtain rfl := Option.some.inj hv'
  exact (wrongF_zero.1 (hO f hfO)).2.2 _ hn'
def withL (L : Str → Nat) (p : List PRule) : List (PRule × Int) := p.map fun r => (r,(L r.head.name : Int))
theorem zip_withL (L : Str → Nat) (p : List PRule) : p.zip (p.map fun r => (L r.head.name : Int)) = withL L p := by
 unfold withL
 induction p with
 | nil => rfl
 | cons r p ih => rw [List.map_cons,List.zip_cons_cons,ih,List.map_cons]
theorem mem_withL {L : Str → Nat} {p : List PRule} {r : PRule} {s : Int} : (r,s) ∈ withL L p ↔ r ∈ p ∧ s = (L r.head.name : Int) := by
 unfold withL
 rw [List.mem_map]
 constructor
 ·rintro ⟨q,hq,e⟩
  injection e with e1 e2
  subst e1
  exact ⟨hq,e2.symm⟩
 ·rintro ⟨h,rfl⟩
  exact ⟨r,h,rfl⟩
structure Upto (p : List PRule) (L : Str → Nat) (l : List PFact) (i : Nat) (out : List PFact) : Prop where
 sub : ∀ x ∈ l,x ∈ out
 closed : ∀ r ∈ p,L r.head.name < i → ∀ x,Derives r out x → x ∈ out
 made : ∀ x ∈ out,x ∈ l ∨ ∃ r ∈ p,L r.head.name < i ∧ Derives r out x
 good : ∀ x ∈ out,wrongF x = 0
 rise : Rising out
 len : out.length ≤ 200
theorem Upto.step {p : List PRule} {L : Str → Nat} (hS : Sol p L) (hR : ∀ r ∈ p,ruleBad r = 0) {l : List PFact} {i : Nat} {out : List PFact} (h : Upto p L l i out) (he : (fixP (withL L p) i 201 out).2 = 0) : Upto p L l (i + 1) (fixP (withL L p) i 201 out).1 := by
 have hF := fix_fixed (by omega) he h.rise h.len
 generalize (fixP (withL L p) i 201 out).1 = M at *
 have hnew : ∀ x ∈ M,x ∈ out ∨ ∃ r ∈ p,L r.head.name = i ∧ x.name = r.head.name := fun x hx => by
  rcases hF.made x hx with h1 | ⟨O,r,s,-,-,h3,h4,h5,h6⟩
  ·exact .inl h1
  ·obtain ⟨h7,rfl⟩ := mem_withL.1 h3
   exact .inr ⟨r,h7,by omega,Derives.name ((mem_heads h5 x).1 h6)⟩
 have hag : ∀ r ∈ p,L r.head.name < i → ∀ a ∈ r.body,∀ f : PFact,f.name = a.name → (f ∈ out ↔ f ∈ M) := fun r hr hlt a ha f hf => ⟨hF.sub f,fun hm => by
  rcases hnew f hm with h1 | ⟨r',h1,h2,h3⟩
  ·exact h1
  ·have := hS.up r hr a ha
   rw [← hf,h3] at this
   omega⟩
 refine ⟨fun x hx => hF.sub x (h.sub x hx),fun r hr hlt x hx => ?_,fun x hx => ?_,fun x hx => ?_,hF.rise,hF.len⟩
 ·by_cases hi : L r.head.name < i
  ·exact hF.sub x (h.closed r hr hi x (hx.agree fun a ha f hf => (hag r hr hi a ha f hf).symm))
  ·obtain ⟨h1,h2⟩ := hF.ok r (L r.head.name) (mem_withL.2 ⟨hr,rfl⟩) (by omega)
   exact h2 x ((mem_heads h1 x).2 hx)
 ·rcases hF.made x hx with h1 | ⟨O,r,s,h1,h2,h3,h4,h5,h6⟩
  ·rcases h.made x h1 with h2 | ⟨r,hr,hlt,hd⟩
   ·exact .inl h2
   ·exact .inr ⟨r,hr,by omega,hd.agree (hag r hr hlt)⟩
  ·obtain ⟨h7,rfl⟩ := mem_withL.1 h3
   refine .inr ⟨r,h7,by omega,(show Derives r O x from (mem_heads h5 x).1 h6).grow h2 fun a ha hneg f hf hm => ?_⟩
   rcases hnew f hm with k1 | ⟨r',k1,k2,k3⟩
   ·exact h1 f k1
   ·exfalso
    have hup := hS.up r h7 a ha
    have hdl : dl p a = 1 := by
     unfold dl
     rw [if_pos ⟨hneg,List.mem_map.2 ⟨r',k1,by rw [← hf,k3]⟩⟩]
    rw [hdl,← hf,k3] at hup
    omega
 ·rcases hF.made x hx with h1 | ⟨O,r,s,h1,h2,h3,h4,h5,h6⟩
  ·exact h.good x h1
  ·obtain ⟨h7,rfl⟩ := mem_withL.1 h3
   exact derives_good (hR r h7) (setF_set (heads_set h5).1).2.2 ((mem_heads h5 x).1 h6)
theorem run_upto {p : List PRule} {L : Str → Nat} (hS : Sol p L) (hR : ∀ r ∈ p,ruleBad r = 0) {l : List PFact} : ∀ {k i : Nat} {out : List PFact},Upto p L l i out → (runP (withL L p) k i out).2 = 0 → Upto p L l (i + k) (runP (withL L p) k i out).1
 | 0,i,out,h,_ => h
 | k + 1,i,out,h,he => by
  obtain ⟨h1,h2⟩ := run_step he
  rw [h2] at he ⊢
  have := run_upto (k := k) (i := i + 1) hS hR (h.step hS hR h1) he
  rwa [show i + 1 + k = i + (k + 1) by omega] at this
theorem max_le : ∀ (l : List Int) (x : Int),x ≤ l.foldl max x ∧ ∀ y ∈ l,y ≤ l.foldl max x
 | [],x => ⟨Int.le_refl _,by simp⟩
 | z :: l,x => by
  obtain ⟨h1,h2⟩ := max_le l (max x z)
  rw [List.foldl_cons]
  refine ⟨by omega,fun y hy => ?_⟩
  rcases List.mem_cons.1 hy with rfl | hy
  ·omega
  ·exact h2 y hy
theorem count_gt {st : List Int} {x : Int} (h : x ∈ st) : x < countP st := by
 cases st with
 | nil => simp at h
 | cons y l =>
  show x < l.foldl max y + 1
  obtain ⟨h1,h2⟩ := max_le l y
  rcases List.mem_cons.1 h with rfl | h
  ·omega
  ·have := h2 x h;omega
structure Follows (p : List PRule) (l M : List PFact) : Prop where
 sub : ∀ x ∈ l,x ∈ M
 closed : ∀ r ∈ p,∀ x,Derives r M x → x ∈ M
 made : ∀ x ∈ M,x ∈ l ∨ ∃ r ∈ p,Derives r M x
 good : ∀ x ∈ M,wrongF x = 0
 rise : Rising M
 len : M.length ≤ 200
theorem setF_of {l : List PFact} (h1 : l.length ≤ 200) (h2 : Rising l) (h3 : ∀ f ∈ l,wrongF f = 0) : setF l = (0,0) := by
 unfold setF
 rw [if_neg (by omega)]
 have : (List.range l.length).find? (fun i => badAt l i != 0) = none := by
  rw [List.find?_range_eq_none]
  intro i hi
  obtain ⟨f,hf⟩ : ∃ f,l[i]? = some f := ⟨_,ζe hi⟩
  have hw := h3 f (ζm hf)
  rcases i with _ | i
  ·simp [badAt_zero hf hw]
  ·obtain ⟨g,hg⟩ : ∃ g,l[i]? = some g := ⟨_,ζe (by omega)⟩
   rw [badAt_succ hf hg hw,if_pos]
   ·simp
   ·obtain ⟨a1,a2⟩ := List.getElem?_eq_some_iff.1 hg
    obtain ⟨b1,b2⟩ := List.getElem?_eq_some_iff.1 hf
    have := List.pairwise_iff_getElem.1 h2 i (i + 1) a1 b1 (by omega)
    rw [a2,b2] at this
    simpa [ltF] using this
 rw [this]
theorem wrongFrom_rules : ∀ {p : List PRule} {m : Known} {i : Int},(wrongFrom m i p).1 = 0 → ∀ r ∈ p,ruleBad r = 0
 | q :: p,m,i,h,r,hr => by
  unfold wrongFrom at h
  by_cases h1 : ruleBad q = 0
  case neg => rw [if_pos h1] at h;exact absurd h h1
  rw [if_neg (by simpa using h1)] at h
  split at h
  ·rcases List.mem_cons.1 hr with rfl | hr
   ·exact h1
   ·exact wrongFrom_rules h r hr
  ·exact absurd h (by simp)
theorem wrongP_rules {p : List PRule} (h : (wrongP p).1 = 0) : ∀ r ∈ p,ruleBad r = 0 := by
 unfold wrongP at h
 split at h
 ·exact absurd h (by decide)
 ·exact wrongFrom_rules h
theorem naive_zero {st : List Int} {q : Int} {p : List PRule} {l : List PFact} (h : (naiveP st q p l).2 = 0) : q = 0 ∧ (factsBad p l).1 = 0 ∧ naiveP st q p l = runP (p.zip st) (countP st).toNat 0 l := by
 unfold naiveP at *
 by_cases h1 : q = 0
 case neg => rw [if_pos h1] at h;exact absurd h h1
 rw [if_neg (by simpa using h1)] at h ⊢
 by_cases h2 : (factsBad p l).1 = 0
 case neg => rw [if_pos h2] at h;exact absurd h h2
 rw [if_neg (by simpa using h2)] at h ⊢
 exact ⟨h1,h2,rfl⟩
theorem factsBad_set {p : List PRule} {l : List PFact} (h : (factsBad p l).1 = 0) : (setF l).1 = 0 := by
 unfold factsBad at h
 by_cases h1 : (setF l).1 = 0
 ·exact h1
 ·rw [if_pos h1] at h;exact absurd h h1
theorem strata_zero {p : List PRule} {st : List Int} {q : Int × Int} (hs : StrataIs p st q) (hq : q.1 = 0) : (∀ r ∈ p,ruleBad r = 0) ∧ (wrongP p).1 = 0 ∧ ∃ L,Least p L ∧ st = p.map (fun r => (L r.head.name : Int)) := by
 rcases hs with ⟨h1,-,rfl⟩ | ⟨h1,⟨L,hL,h2,-⟩ | ⟨-,-,rfl⟩⟩
 ·exact absurd hq h1
 ·exact ⟨wrongP_rules h1,h1,L,hL,h2⟩
 ·exact absurd hq (by decide)
theorem naive_follows {p : List PRule} {l : List PFact} {st : List Int} {q : Int × Int} (hs : StrataIs p st q) (h : (naiveP st q.1 p l).2 = 0) : Follows p l (naiveP st q.1 p l).1 ∧ (setF l).1 = 0 ∧ ∀ r ∈ p,ruleBad r = 0 := by
 obtain ⟨h1,h2,h3⟩ := naive_zero h
 obtain ⟨hR,hW,L,hL,rfl⟩ := strata_zero hs h1
 have hset := factsBad_set h2
 obtain ⟨g1,g2,g3⟩ := setF_set hset
 rw [h3] at h ⊢
 rw [zip_withL] at h ⊢
 have h0 : Upto p L l 0 l := ⟨fun x hx => hx,fun r _ hlt => by omega,fun x hx => .inl hx,g3,g2,g1⟩
 have hU := run_upto (k := (countP (p.map fun r => (L r.head.name : Int))).toNat) (i := 0) hL.sol hR h0 h
 have hcnt : ∀ r ∈ p,L r.head.name < 0 + (countP (p.map fun r => (L r.head.name : Int))).toNat := fun r hr => by
  have := count_gt (st := p.map fun r => (L r.head.name : Int)) (List.mem_map.2 ⟨r,hr,rfl⟩)
  omega
 refine ⟨⟨hU.sub,fun r hr x hx => hU.closed r hr (hcnt r hr) x hx,fun x hx => ?_,hU.good,hU.rise,hU.len⟩,hset,hR⟩
 ·rcases hU.made x hx with h | ⟨r,hr,-,hd⟩
  ·exact .inl h
  ·exact .inr ⟨r,hr,hd⟩
theorem Follows.set {p : List PRule} {l M : List PFact} (h : Follows p l M) : setF M = (0,0) := setF_of h.len h.rise h.good
end
section
theorem fitAll_append : ∀ (l k : List PAtom) (m : Known),fitAll m (l ++ k) = (fitAll m l && fitAll (learnAll m l) k)
 | [],k,m => by simp [fitAll,learnAll]
 | a :: l,k,m => by rw [List.cons_append,fitAll,fitAll,learnAll,fitAll_append l k,Bool.and_assoc]
theorem wrongFrom_iff : ∀ (p : List PRule) (m : Known) (i : Int),(wrongFrom m i p).1 = 0 ↔ (∀ r ∈ p,ruleBad r = 0) ∧ fitAll m (atomsOf p) = true
 | [],m,i => by simp [wrongFrom,atomsOf,fitAll]
 | r :: p,m,i => by
  have ha : atomsOf (r :: p) = (r.head :: r.body) ++ atomsOf p := by simp [atomsOf]
  rw [ha,fitAll_append,wrongFrom]
  by_cases h1 : ruleBad r = 0
  ·rw [if_neg (by simpa using h1)]
   by_cases h2 : fitAll m (r.head :: r.body) = true
   ·rw [if_pos h2,wrongFrom_iff p,h2,Bool.true_and]
    simp [h1]
   ·rw [if_neg h2]
    simp only [Bool.not_eq_true] at h2
    rw [h2]
    simp
  ·rw [if_pos h1]
   simp [h1]
theorem fits_learn {m : Known} {a b : PAtom} (h : fits m a = true) : fits (learn m a) b = true ↔ fits m b = true ∧ (a.name = b.name → a.terms.length = b.terms.length) := by
 unfold learn
 cases hm : m a.name with
 | some n =>
  rw [if_pos (by simp)]
  refine ⟨fun hb => ⟨hb,fun e => ?_⟩,fun hb => hb.1⟩
  unfold fits at h hb
  rw [hm] at h
  rw [← e,hm] at hb
  simp at h hb
  omega
 | none =>
  rw [if_neg (by simp)]
  unfold fits
  by_cases e : b.name = a.name
  ·dsimp only
   rw [if_pos e,e,hm]
   simp only [true_and,forall_const,beq_iff_eq]
   omega
  ·dsimp only
   rw [if_neg e]
   simp [Ne.symm e]
theorem fitAll_iff : ∀ (l : List PAtom) (m : Known),fitAll m l = true ↔ (∀ a ∈ l,fits m a = true) ∧ ∀ a ∈ l,∀ b ∈ l,a.name = b.name → a.terms.length = b.terms.length
 | [],m => by simp [fitAll]
 | a :: l,m => by
  rw [fitAll,Bool.and_eq_true,fitAll_iff l]
  constructor
  ·rintro ⟨h1,h2,h3⟩
   have h4 := fun b hb => (fits_learn h1).1 (h2 b hb)
   refine ⟨fun b hb => ?_,fun b hb c hc e => ?_⟩
   ·rcases List.mem_cons.1 hb with rfl | hb
    ·exact h1
    ·exact (h4 b hb).1
   ·rcases List.mem_cons.1 hb with hb | hb <;> rcases List.mem_cons.1 hc with hc | hc
    ·rw [hb,hc]
    ·rw [hb] at e ⊢;exact (h4 c hc).2 e
    ·rw [hc] at e ⊢;exact ((h4 b hb).2 e.symm).symm
    ·exact h3 b hb c hc e
  ·rintro ⟨h1,h2⟩
   have ha := h1 a (by simp)
   exact ⟨ha,fun b hb => (fits_learn ha).2 ⟨h1 b (by simp [hb]),fun e => h2 a (by simp) b (by simp [hb]) e⟩,fun b hb c hc e => h2 b (by simp [hb]) c (by simp [hc]) e⟩
def Arity (p : List PRule) : Prop := ∀ a ∈ atomsOf p,∀ b ∈ atomsOf p,a.name = b.name → a.terms.length = b.terms.length
theorem wrongP_iff {p : List PRule} : (wrongP p).1 = 0 ↔ p.length ≤ 16 ∧ (∀ r ∈ p,ruleBad r = 0) ∧ Arity p := by
 unfold wrongP
 by_cases h : 16 < p.length
 ·rw [if_pos h]
  constructor
  ·intro h1;exact absurd h1 (by decide)
  ·rintro ⟨h1,-⟩;omega
 ·rw [if_neg h,wrongFrom_iff,fitAll_iff]
  exact ⟨fun h1 => ⟨by omega,h1.1,h1.2.2⟩,fun h1 => ⟨h1.2.1,fun a _ => by simp [fits],h1.2.2⟩⟩
theorem arityF_fold : ∀ (l : List PAtom) (m : Str → Option Int) (t : Str),((∀ a ∈ l,a.name ≠ t) → l.foldl arityF m t = m t) ∧ ((∃ a ∈ l,a.name = t) → ∃ a ∈ l,a.name = t ∧ l.foldl arityF m t = some (a.terms.length : Int))
 | [],m,t => ⟨fun _ => rfl,fun ⟨a,ha,_⟩ => by simp at ha⟩
 | b :: l,m,t => by
  obtain ⟨h1,h2⟩ := arityF_fold l (arityF m b) t
  rw [List.foldl_cons]
  refine ⟨fun h => ?_,fun h => ?_⟩
  ·rw [h1 fun a ha => h a (by simp [ha])]
   have := h b (by simp)
   unfold arityF
   rw [if_neg (fun e => this e.symm)]
  ·by_cases hl : ∃ a ∈ l,a.name = t
   ·obtain ⟨a,ha,e,hf⟩ := h2 hl
    exact ⟨a,by simp [ha],e,hf⟩
   ·have hl' : ∀ a ∈ l,a.name ≠ t := fun a ha e => hl ⟨a,ha,e⟩
    obtain ⟨a,ha,e⟩ := h
    rcases List.mem_cons.1 ha with rfl | ha
    ·refine ⟨a,by simp,e,?_⟩
     rw [h1 hl']
     unfold arityF
     rw [if_pos e.symm]
    ·exact absurd e (hl' a ha)
theorem misfit_iff {p : List PRule} (h : Arity p) (f : PFact) : misfit p f = true ↔ ∃ a ∈ atomsOf p,a.name = f.name ∧ a.terms.length ≠ f.args.length := by
 unfold misfit arityP
 obtain ⟨h1,h2⟩ := arityF_fold (atomsOf p) (fun _ => none) f.name
 by_cases hx : ∃ a ∈ atomsOf p,a.name = f.name
 ·obtain ⟨a,ha,e,hf⟩ := h2 hx
  rw [hf]
  constructor
  ·intro hk
   exact ⟨a,ha,e,fun e2 => by simp [e2] at hk⟩
  ·rintro ⟨b,hb,e3,hk⟩
   have := h a ha b hb (e.trans e3.symm)
   simp;omega
 ·rw [h1 fun a ha e => hx ⟨a,ha,e⟩]
  constructor
  ·intro hk;cases hk
  ·rintro ⟨b,hb,e3,-⟩
   exact absurd ⟨b,hb,e3⟩ hx
theorem fillP_len {a : PAtom} {m : Binds} {f : PFact} (h : fillP a m = some f) : f.args.length = a.terms.length := by
 have := fillArgs_len (fillP_name h).2;omega
theorem count_is (st : List Int) : st = [] ∧ countP st = 0 ∨ ∃ x ∈ st,countP st = x + 1 := by
 cases st with
 | nil => exact .inl ⟨rfl,rfl⟩
 | cons y l =>
  refine .inr ?_
  have : ∀ (l : List Int) (x : Int),l.foldl max x = x ∨ l.foldl max x ∈ l := by
   intro l
   induction l with
   | nil => intro x;exact .inl rfl
   | cons z l ih =>
    intro x
    rw [List.foldl_cons]
    rcases ih (max x z) with h | h
    ·rw [h]
     by_cases hx : x ≤ z
     ·exact .inr (by rw [Int.max_eq_right hx];simp)
     ·exact .inl (Int.max_eq_left (by omega))
    ·exact .inr (by simp [h])
  rcases this l y with h | h
  ·exact ⟨y,by simp,by show l.foldl max y + 1 = _;rw [h]⟩
  ·exact ⟨_,List.mem_cons_of_mem _ h,rfl⟩
end
section
structure Good (l : List PFact) : Prop where
 rise : Rising l
 len : l.length ≤ 200
 fine : ∀ f ∈ l,wrongF f = 0
theorem Good.set {l : List PFact} (h : Good l) : setF l = (0,0) := setF_of h.len h.rise h.fine
theorem good_of {l : List PFact} (h : (setF l).1 = 0) : Good l := ⟨(setF_set h).2.1,(setF_set h).1,(setF_set h).2.2⟩
theorem once_good {n : Int} {l : List PFact} (hl : Good l) {ps : List (PRule × Int)} (hR : ∀ r s,(r,s) ∈ ps → ruleBad r = 0) {out : List PFact} (ho : Good out) (h : (onceP n l ps out).2 = 0) : Good (onceP n l ps out).1 := by
 have hr := once_round h ho.rise ho.len
 refine ⟨hr.rise,hr.len,fun x hx => ?_⟩
 rcases (hr.mem x).1 hx with h1 | ⟨r,s,h1,h2,h3⟩
 ·exact ho.fine x h1
 ·exact derives_good (hR r s h1) hl.fine ((mem_heads (hr.ok r s h1 h2) x).1 h3)
end
section
end
section
inductive PProof where
 | mk (fact : PFact) (rule : Int) (kids : List PProof)
def PProof.fact : PProof → PFact := fun x => match x with | .mk f _ _ => f
def PProof.rule : PProof → Int := fun x => match x with | .mk _ r _ => r
def PProof.kids : PProof → List PProof := fun x => match x with | .mk _ _ k => k
def cntN : Nat → PProof → Nat
 | 0,_ => 0
 | n + 1,x => 1 + (x.kids.map (cntN n)).sum
def depN : Nat → PProof → Nat
 | 0,_ => 0
 | n + 1,x => (x.kids.map (depN n)).foldl max 0 + 1
def bodyMeet : List PAtom → List PFact → Binds → Binds × List PFact × Int
 | [],ks,b => (b,ks,0)
 | a :: l,ks,b => if a.neg then bodyMeet l ks b else match ks with
  | [] => (b,[],5)
  | f :: ks => match meetP a f b with
   | none => (b,ks,8)
   | some m => bodyMeet l ks m
def badNeg (M : List PFact) (b : Binds) (a : PAtom) : Bool := a.neg && (match fillP a b with
 | none => true
 | some f => memF f M)
def firstErr (f : PProof → Int) : List PProof → Int
 | [] => 0
 | x :: l => if f x ≠ 0 then f x else firstErr f l
def leafBad (told : List PFact) (x : PProof) : Int := if x.rule ≠ -1 ∨ x.kids ≠ [] ∨ memF x.fact told = false then 6 else 0
def ruleOf (r : PRule) (M : List PFact) (x : PProof) : Int := match meetP r.head x.fact [] with
 | none => 8
 | some b => if (bodyMeet r.body (x.kids.map PProof.fact) b).2.2 ≠ 0 then (bodyMeet r.body (x.kids.map PProof.fact) b).2.2
  else if (bodyMeet r.body (x.kids.map PProof.fact) b).2.1 ≠ [] then 5
  else if r.body.any (badNeg M (bodyMeet r.body (x.kids.map PProof.fact) b).1) then 10 else 0
def oneN (p : List PRule) (told M : List PFact) : Nat → PProof → Int
 | 0,_ => 6
 | n + 1,x => if x.rule < 0 then leafBad told x else match p[x.rule.toNat]? with
  | none => 1
  | some r => if ruleOf r M x ≠ 0 then ruleOf r M x else firstErr (oneN p told M n) x.kids
def checkN (st : List Int) (q : Int) (p : List PRule) (told : List PFact) (n : Nat) (x : PProof) : Int :=
 if (naiveP st q p told).2 ≠ 0 then (naiveP st q p told).2 else if 400 < cntN n x ∨ 60 < depN n x then 4 else oneN p told (naiveP st q p told).1 n x
theorem fillArgs_congr {l m : Binds} : ∀ {ts : List PTerm},(∀ t ∈ ts,t.var = true → getB t.name l = getB t.name m) → fillArgs l ts = fillArgs m ts
 | [],_ => rfl
 | t :: ts,h => by
  have h1 : valT l t = valT m t := by
   unfold valT
   by_cases ht : t.var = true
   ·rw [if_pos ht,if_pos ht,h t (by simp) ht]
   ·rw [if_neg ht,if_neg ht]
  rw [fillArgs,fillArgs,h1,fillArgs_congr (ts := ts) fun t ht => h t (by simp [ht])]
theorem fillP_congr {l m : Binds} {a : PAtom} (h : ∀ v ∈ varsOf a,getB v l = getB v m) : fillP a l = fillP a m := by
 unfold fillP
 rw [fillArgs_congr fun t ht hv => h t.name ((mem_varsOf t.name a).2 ⟨t,ht,hv,rfl⟩)]
theorem fillP_vars {l : Binds} {a : PAtom} {f : PFact} (h : fillP a l = some f) : ∀ v ∈ varsOf a,v ∈ Vs l := fun v hv => by
 obtain ⟨t,ht,hvar,rfl⟩ := (mem_varsOf v a).1 hv
 exact fillArgs_vars (fillP_name h).2 t ht hvar
theorem meetP_spec {a : PAtom} {f : PFact} {l m : Binds} (hd : Nd l) (h : meetP a f l = some m) : SubB l m ∧ Nd m ∧ fillP a m = some f := by
 unfold meetP at h
 split at h
 ·rename_i hc
  obtain ⟨h1,h2,h3,-⟩ := meetL_spec a.terms f.args l m hc.2 hd h
  refine ⟨h2,h1,?_⟩
  unfold fillP
  rw [h3,hc.1]
  rfl
 ·cases h
theorem bodyMeet_cons (a : PAtom) (l : List PAtom) (ks : List PFact) (b : Binds) : bodyMeet (a :: l) ks b = if a.neg then bodyMeet l ks b else match ks with
 | [] => (b,[],5)
 | f :: ks => match meetP a f b with
  | none => (b,ks,8)
  | some m => bodyMeet l ks m := by cases ks <;> rfl
theorem bodyMeet_spec : ∀ (body : List PAtom) (ks : List PFact) (b : Binds),Nd b → (bodyMeet body ks b).2.2 = 0 → (bodyMeet body ks b).2.1 = [] →
 SubB b (bodyMeet body ks b).1 ∧ Nd (bodyMeet body ks b).1 ∧ ∀ a ∈ body,a.neg = false → ∃ f ∈ ks,fillP a (bodyMeet body ks b).1 = some f
 | [],ks,b,hd,_,_ => ⟨fun v n h => h,hd,fun a ha => by simp at ha⟩
 | a :: l,ks,b,hd,h0,h1 => by
  rw [bodyMeet_cons] at h0 h1 ⊢
  by_cases hn : a.neg = true
  ·rw [if_pos hn] at h0 h1 ⊢
   obtain ⟨i1,i2,i3⟩ := bodyMeet_spec l ks b hd h0 h1
   refine ⟨i1,i2,fun y hy hny => ?_⟩
   rcases List.mem_cons.1 hy with rfl | hy
   ·rw [hn] at hny;cases hny
   ·exact i3 y hy hny
  ·rw [if_neg hn] at h0 h1 ⊢
   cases ks with
   | nil => exact absurd h0 (show (5 : Int) ≠ 0 by decide)
   | cons f ks =>
    dsimp only at h0 h1 ⊢
    cases hm : meetP a f b with
    | none => rw [hm] at h0;exact absurd h0 (show (8 : Int) ≠ 0 by decide)
    | some m =>
     rw [hm] at h0 h1
     dsimp only at h0 h1 ⊢
     obtain ⟨j1,j2,j3⟩ := meetP_spec hd hm
     obtain ⟨i1,i2,i3⟩ := bodyMeet_spec l ks m j2 h0 h1
     refine ⟨j1.trans i1,i2,fun y hy hny => ?_⟩
     rcases List.mem_cons.1 hy with rfl | hy
     ·exact ⟨f,by simp,i1.fillP j3⟩
     ·obtain ⟨g,hg,hf⟩ := i3 y hy hny
      exact ⟨g,by simp [hg],hf⟩
end
section
open Go.RowKit
theorem Owned.lit {α : Type} {k : Nat} {R : Reader α} {B : Nat} {e : TypeId} {S : Nat → Prop} {w : World} {l : List α} (css : List (List Value)) (cs : Array Value) (hl : css.length = l.length) (hk : ∀ c ∈ css,c.length = k) (hc : cs.toList = css.flatten) (hs : cs.size = l.length * k)
 (hb : B ≤ w.heap.size) (hm : l.length ≤ maxLen) (hr : ∀ (i : Nat) (c : List Value) (x : α),css[i]? = some c → l[i]? = some x → R (fun b => S b ∧ some b ≠ some w.heap.size) (w.alloc (.cells cs e)) c x) :
 Owned k R B e S (w.alloc (.cells cs e)) (.slice (some ⟨w.heap.size,0,none⟩) l.length l.length) l :=
 ⟨css,hl,hk,by have := World.ownsRow_lit (base := B) (size := k) (e := e) w cs l.length hb hm hs;rwa [hc] at this,hr⟩
theorem RAtom.one {S : Nat → Prop} {w : World} {cs : List Value} {x : PAtom} (h : RAtom S w cs x) : ∀ u ∈ cs,u.oneCell' = true := by
 obtain ⟨tv,rfl,hr⟩ := h
 obtain ⟨a,c,rfl,-⟩ := hr.form
 simp [Value.oneCell']
theorem RdStrs.nil {S : Nat → Prop} {w : World} : RdStrs S w (.slice none 0 0) [] := ⟨none,0,rfl,ζn _,Nat.zero_le _,fun _ => rfl,fun i x h => by simp at h⟩
theorem RdFacts.nil {S : Nat → Prop} {w : World} : RdFacts S w (.slice none 0 0) [] := ⟨none,0,rfl,ζn _,Nat.zero_le _,fun _ => rfl,fun i x h => by simp at h⟩
theorem addF_length (f : PFact) (l : List PFact) : (addF f l).length ≤ l.length + 1 := by
 induction l with
 | nil => simp [addF]
 | cons g l ih =>
  unfold addF
  split
  ·simp
  ·split
   ·simp
   ·simp only [List.length_cons];omega
theorem ofF_length (l : List PFact) : (ofF l).length ≤ l.length := by
 induction l with
 | nil => simp [ofF]
 | cons f l ih =>
  have := addF_length f (ofF l)
  show (addF f (ofF l)).length ≤ _
  simp only [List.length_cons];omega
end
section
abbrev Bytes := List UInt8
end
section
open Go.RowKit
def bytesOf (s : Str) : Bytes := s.data.toList
theorem bytesOf_length (s : Str) : (bytesOf s).length = s.size := by unfold bytesOf;rw [Array.length_toList];rfl
def rest (s : Str) (k : Nat) : Bytes := (bytesOf s).drop k
theorem rest_cons (s : Str) (k : Nat) (h : k < s.size) : rest s k = s[k] :: rest s (k + 1) := drop_bytes s k h
abbrev But (B : Nat) (w w' : World) : Prop := w.grownBy w' (some B)
theorem But.refl (B : Nat) (w : World) : But B w w := World.grownBy.refl w _
theorem But.trans {B : Nat} {a b c : World} (h : But B a b) (k : But B b c) : But B a c :=
 ⟨h.os ▸ k.os ▸ rfl,h.tape ▸ k.tape ▸ rfl,h.output ▸ k.output ▸ rfl,Nat.le_trans h.size k.size,fun i hi hne => (k.block i (Nat.lt_of_lt_of_le hi h.size) hne).trans (h.block i hi hne)⟩
theorem But.alloc {B : Nat} {a w : World} (h : But B a w) (o : Obj) : But B a (w.alloc o) :=
 ⟨h.os,h.tape,h.output,Nat.le_trans h.size (by simp),fun i hi hne => (Below.heap_alloc w o i (Nat.lt_of_lt_of_le hi h.size)).trans (h.block i hi hne)⟩
theorem But.setCell {B : Nat} {a w : World} (h : But B a w) {p : Addr} (hp : p.block = B ∨ a.heap.size ≤ p.block) (u : Value) : But B a (w.setCell p u) :=
 ⟨h.os,h.tape,h.output,by simpa [World.setCell] using h.size,fun i hi hne => (Below.heap_setCell w p u i (by
  rintro rfl
  rcases hp with hp | hp
  ·exact hne (by rw [hp])
  ·omega)).trans (h.block i hi hne)⟩
theorem But.of_below {B : Nat} {a w : World} (h : Below a.heap.size a w) : But B a w := ⟨h.os,h.tape,h.output,h.size,fun i hi _ => h.block i hi⟩
theorem But.below {B : Nat} {a w w' : World} (h : But B a w) (k : Below w.heap.size w w') : But B a w' := h.trans (But.of_below k)
attribute [local go_sem ↓] Go.wp_at_zero Go.wp_at_succ
end
section
open Go.RowKit
theorem named_a (t : Str) : named (⟨#[97]⟩ ++ t) = (decide (t.size ≤ 11) && (bytesOf t).all signB) := by
 have e : (⟨#[97]⟩ ++ t : ByteArray).data.toList = 97 :: bytesOf t := by
  show (⟨#[97]⟩ ++ t : ByteArray).data.toList = _
  rw [ByteArray.data_append]
  simp [bytesOf]
 unfold named
 rw [e]
 unfold nameL
 simp only [List.length_cons,bytesOf_length]
 rw [show smallB 97 = true from by decide]
 simp only [Bool.true_and]
 congr 1
 simp
theorem variableS_cons (s : Str) (h : 0 < s.size) (h2 : s.size ≤ 12) : variableS s = (upperB s[0] && (bytesOf (s.extract 1 s.size)).all signB) := by
 have e : bytesOf s = s[0] :: rest s 1 := by have := rest_cons s 0 h;simpa [rest] using this
 have e2 : bytesOf (s.extract 1 s.size) = rest s 1 := Lib.extract_to_end s 1
 unfold variableS
 rw [show s.data.toList = bytesOf s from rfl,e,e2]
 unfold varL
 have hl : (s[0] :: rest s 1).length = s.size := by rw [← e,bytesOf_length]
 rw [hl,decide_eq_true h2]
 rfl
set_option maxHeartbeats 0 in
theorem variableCalls (s : Str) (w : World) (hs : s.size ≤ 1099511627776) : Calls Tryz.prog 97 #[.string s] w fun e w' => e = .returned (.bool (variableS s)) ∧ w = w' := by
 by_cases h0 : s.size < 1
 ·have i1 : (s.size : Int) < 1 := by omega
  have HE := ζ (show variableS s = false by
   have : bytesOf s = [] := List.eq_nil_of_length_eq_zero (by rw [bytesOf_length];omega)
   unfold variableS
   rw [show s.data.toList = bytesOf s from rfl,this]
   rfl)
  go_enter Tryz.func97,Tryz.ntmps97
  go_wp2
  go_ret
  exact ⟨ret_bool HE.out.symm,rfl⟩
 by_cases h12 : 12 < s.size
 ·have i1 : ¬ (s.size : Int) < 1 := by omega
  have i2 : (12 : Int) < (s.size : Int) := by omega
  have HE := ζ (show variableS s = false by
   unfold variableS varL
   rw [show s.data.toList = bytesOf s from rfl,bytesOf_length,decide_eq_false (by omega)]
   rfl)
  go_enter Tryz.func97,Tryz.ntmps97
  go_wp2
  go_ret
  exact ⟨ret_bool HE.out.symm,rfl⟩
 have i1 : ¬ (s.size : Int) < 1 := by omega
 have i2 : ¬ (12 : Int) < (s.size : Int) := by omega
 have i3 : (0 : Int) < (s.size : Int) := by omega
 have h1 : 0 < s.size := by omega
 have HV := ζ (variableS_cons s h1 (by omega))
 by_cases hlo : s[0].toNat < 65
 ·have i4 : (s[0].toNat : Int) < 65 := by omega
  have HE := ζ (show variableS s = false by rw [HV.out];simp [upperB];omega)
  go_enter Tryz.func97,Tryz.ntmps97
  go_wp2
  go_ret
  exact ⟨ret_bool HE.out.symm,rfl⟩
 by_cases hhi : 90 < s[0].toNat
 ·have i4 : ¬ (s[0].toNat : Int) < 65 := by omega
  have i5 : (90 : Int) < (s[0].toNat : Int) := by omega
  have HE := ζ (show variableS s = false by rw [HV.out];simp [upperB];omega)
  go_enter Tryz.func97,Tryz.ntmps97
  go_wp2
  go_ret
  exact ⟨ret_bool HE.out.symm,rfl⟩
 have i4 : ¬ (s[0].toNat : Int) < 65 := by omega
 have i5 : ¬ (90 : Int) < (s[0].toNat : Int) := by omega
 have i6 : (1 : Int) ≤ (s.size : Int) := by omega
 have HE := ζ (show variableS s = named (⟨#[97]⟩ ++ s.extract 1 s.size) by
  rw [HV.out,named_a,show upperB s[0] = true from decide_eq_true ⟨by omega,by omega⟩,ByteArray.size_extract,decide_eq_true (by omega)])
 go_enter Tryz.func97,Tryz.ntmps97
 go_wp2_with fail
 refine (namedCalls _ _).mono ?_
 rintro e w' ⟨rfl,rfl⟩
 go_wp2
 go_ret
 exact ⟨ret_bool HE.out.symm,rfl⟩
end
section
open Go.RowKit
theorem RdSlice.take {α : Type} {k : Nat} {R : Reader α} {S : Nat → Prop} {w : World} {a : Option Addr} {n cap : Nat} {l : List α} (h : RdSlice k R S w (.slice a n cap) l) {j : Nat} (hj : j ≤ l.length) : RdSlice k R S w (.slice a j cap) (l.take j) := by
 obtain ⟨a',cap',hv,h1,h2,h0,h3⟩ := h
 injection hv with e1 e2 e3
 subst e1 e3
 have hl : (l.take j).length = j := by rw [List.length_take];omega
 refine ⟨a,cap,by rw [hl],by omega,h2,h0,fun i x hx => ?_⟩
 have hi : i < j := by have := (List.getElem?_eq_some_iff.1 hx).1;omega
 rw [List.getElem?_take_of_lt hi] at hx
 exact h3 i x hx
theorem RdSlice.drop {α : Type} {k : Nat} {R : Reader α} {S : Nat → Prop} {w : World} {a : Option Addr} {n cap : Nat} {l : List α} (h : RdSlice k R S w (.slice a n cap) l) {j : Nat} (hj : j ≤ l.length) :
 RdSlice k R S w (.slice (if cap = j then a else a.map (·.add (j * k))) (l.length - j) (cap - j)) (l.drop j) := by
 obtain ⟨a',cap',hv,h1,h2,h0,h3⟩ := h
 injection hv with e1 e2 e3
 subst e1 e3
 have hl : (l.drop j).length = l.length - j := List.length_drop
 refine ⟨_,cap - j,by rw [hl],by omega,by omega,fun e => ?_,fun i x hx => ?_⟩
 ·split at e
  ·omega
  ·cases a with
   | none => rw [h0 rfl];omega
   | some p => simp at e
 ·rw [List.getElem?_drop] at hx
  have hi := (List.getElem?_eq_some_iff.1 hx).1
  obtain ⟨b,off,cs,ha,hS,hb,hk,hc,hr⟩ := h3 (j + i) x hx
  subst ha
  refine ⟨b,off + j * k,cs,?_,hS,hb,hk,fun t u hu => ?_,hr⟩
  ·rw [if_neg (by omega)]
   simp only [Option.map_some,Addr.add]
   split
   ·rename_i hz;rw [hz];rfl
   ·rfl
  ·have := hc t u hu
   rwa [show off + (j + i) * k + t = off + j * k + i * k + t by rw [Nat.add_mul];omega] at this
theorem RdSlice.drop_some {α : Type} {k : Nat} {R : Reader α} {S : Nat → Prop} {w : World} {b o : Nat} {n cap : Nat} {l : List α} (h : RdSlice k R S w (.slice (some ⟨b,o,none⟩) n cap) l) {j : Nat} (hj : j ≤ l.length) :
 RdSlice k R S w (.slice (if cap = j then some ⟨b,o,none⟩ else some ⟨b,o + j * k,none⟩) (l.length - j) (cap - j)) (l.drop j) := by
 have := h.drop hj
 simp only [Option.map_some,Addr.add] at this
 split at this
 ·split
  ·assumption
  ·rename_i h1 h2;exact absurd h1 h2
 ·rename_i hne
  rw [if_neg hne]
  split at this
  ·rename_i h0
   rw [h0]
   exact this
  ·exact this
theorem RdSlice.nothing {α : Type} {k : Nat} {R : Reader α} {S : Nat → Prop} {w : World} {a : Option Addr} {cap : Nat} (hm : cap ≤ maxLen) (h0 : a = none → cap = 0) : RdSlice k R S w (.slice a 0 cap) ([] : List α) :=
 ⟨a,cap,rfl,Nat.zero_le _,hm,h0,fun i x hx => by simp at hx⟩
end
section
open Go.RowKit
def Blk (w : World) (g : Nat) (t : TypeId) (cs : Array Value) : Prop := w.heap[g]? = some (.cells cs t (0,0))
section
variable {w w' : World} {g : Nat} {t : TypeId} {cs : Array Value}
theorem Blk.lt (h : Blk w g t cs) : g < w.heap.size := (Array.getElem?_eq_some_iff.1 h).1
theorem Blk.cell (h : Blk w g t cs) (i : Nat) : w.cell? ⟨g,i,none⟩ = cs[i]? := cell_of_row w g i cs t (0,0) h
theorem Blk.frozen (h : Blk w g t cs) (i : Nat) : w.frozen? ⟨g,i,none⟩ = false := by
 unfold Blk at h
 simp [World.frozen?,h]
theorem Blk.new (w : World) (t : TypeId) (cs : Array Value) : Blk (w.alloc (.cells cs t)) w.heap.size t cs := heap_alloc_new w _
theorem Blk.drew (h : Blk w g t cs) : Blk w.drew g t cs := h
theorem Blk.alloc (h : Blk w g t cs) (o : Obj) : Blk (w.alloc o) g t cs := (Below.heap_alloc w o g h.lt).trans h
theorem Blk.set_ (h : Blk w g t cs) (i : Nat) (u : Value) : Blk (w.setCell ⟨g,i,none⟩ u) g t (cs.setIfInBounds i u) := by
 unfold Blk at h ⊢
 simp [World.setCell,Array.getElem?_modify,h]
theorem Blk.far (h : Blk w g t cs) {p : Addr} (hp : g ≠ p.block) (u : Value) : Blk (w.setCell p u) g t cs := (Below.heap_setCell w p u g hp).trans h
theorem Blk.below {B : Nat} (h : Blk w g t cs) (hb : Below B w w') (hg : g < B) : Blk w' g t cs := (hb.block g hg).trans h
theorem Blk.grown {row : Option Nat} (h : Blk w g t cs) (hb : w.grownBy w' row) (hg : some g ≠ row) : Blk w' g t cs := (hb.block g h.lt hg).trans h
theorem Blk.but {B : Nat} (h : Blk w g t cs) (hb : But B w w') (hg : g ≠ B) : Blk w' g t cs := (hb.block g h.lt (fun e => hg (Option.some.inj e))).trans h
end
theorem rowTerms : RowT Tryz.prog 76 104 2 := RowT.mk' (b := 24) (z := .agg #[.bool false,.string ⟨#[]⟩]) Tryz.underlying76 (by kernel_rfl) (by omega) rfl (by omega)
theorem But.row {B : Nat} {a w w' : World} {row : Option Nat} (h : But B a w) (hg : w.grownBy w' row) (hr : ∀ q,row = some q → a.heap.size ≤ q) : But B a w' :=
 ⟨h.os ▸ hg.os ▸ rfl,h.tape ▸ hg.tape ▸ rfl,h.output ▸ hg.output ▸ rfl,Nat.le_trans h.size hg.size,fun i hi hne => (hg.block i (Nat.lt_of_lt_of_le hi h.size) (fun e => by have := hr i e.symm;omega)).trans (h.block i hi hne)⟩
attribute [local go_sem ↓] Go.wp_at_zero Go.wp_at_succ
end
section
open Go.RowKit
theorem RdTerms.at {S : Nat → Prop} {w : World} {a : Option Addr} {n cap : Nat} {l : List PTerm} (h : RdTerms S w (.slice a n cap) l) {i : Nat} {x : PTerm} (hx : l[i]? = some x) :
 ∃ b off,a = some ⟨b,off,none⟩ ∧ S b ∧ b < w.heap.size ∧ w.cell? ⟨b,off + i * 2,none⟩ = some (.bool x.var) ∧ w.cell? ⟨b,off + i * 2 + 1,none⟩ = some (.string x.name) := by
 obtain ⟨a',cap',hv,_,_,_,h3⟩ := h
 obtain ⟨b,off,cs,ha,hS,hb,hk,hc,hr⟩ := h3 i x hx
 injection hv with e1 e2 e3
 subst e1
 have hr' : cs = [.bool x.var,.string x.name] := hr
 subst hr'
 exact ⟨b,off,ha,hS,hb,by simpa using hc 0 _ rfl,by simpa using hc 1 _ rfl⟩
theorem RdAtoms.at {S : Nat → Prop} {w : World} {a : Option Addr} {n cap : Nat} {l : List PAtom} (h : RdAtoms S w (.slice a n cap) l) {i : Nat} {x : PAtom} (hx : l[i]? = some x) :
 ∃ b off tv,a = some ⟨b,off,none⟩ ∧ S b ∧ b < w.heap.size ∧ w.cell? ⟨b,off + i * 3,none⟩ = some (.bool x.neg) ∧ w.cell? ⟨b,off + i * 3 + 1,none⟩ = some (.string x.name) ∧ w.cell? ⟨b,off + i * 3 + 2,none⟩ = some tv ∧ RdTerms S w tv x.terms := by
 obtain ⟨a',cap',hv,_,_,_,h3⟩ := h
 obtain ⟨b,off,cs,ha,hS,hb,hk,hc,tv,hr,hq⟩ := h3 i x hx
 injection hv with e1 e2 e3
 subst e1
 subst hr
 exact ⟨b,off,tv,ha,hS,hb,by simpa using hc 0 _ rfl,by simpa using hc 1 _ rfl,by simpa using hc 2 _ rfl,hq⟩
theorem RdRules.at {S : Nat → Prop} {w : World} {a : Option Addr} {n cap : Nat} {l : List PRule} (h : RdRules S w (.slice a n cap) l) {i : Nat} {x : PRule} (hx : l[i]? = some x) :
 ∃ b off tv bv,a = some ⟨b,off,none⟩ ∧ S b ∧ b < w.heap.size ∧ w.cell? ⟨b,off + i * 4,none⟩ = some (.bool x.head.neg) ∧ w.cell? ⟨b,off + i * 4 + 1,none⟩ = some (.string x.head.name) ∧ w.cell? ⟨b,off + i * 4 + 2,none⟩ = some tv ∧ w.cell? ⟨b,off + i * 4 + 3,none⟩ = some bv ∧ RdTerms S w tv x.head.terms ∧ RdAtoms S w bv x.body := by
 obtain ⟨a',cap',hv,_,_,_,h3⟩ := h
 obtain ⟨b,off,cs,ha,hS,hb,hk,hc,tv,bv,hr,hq,hq2⟩ := h3 i x hx
 injection hv with e1 e2 e3
 subst e1
 subst hr
 exact ⟨b,off,tv,bv,ha,hS,hb,by simpa using hc 0 _ rfl,by simpa using hc 1 _ rfl,by simpa using hc 2 _ rfl,by simpa using hc 3 _ rfl,hq,hq2⟩
theorem RdTerms.up {S : Nat → Prop} {w w' : World} {v : Value} {l : List PTerm} (h : RdTerms S w v l) (hb : Below w.heap.size w w') : RdTerms (fun _ => True) w' v l := (h.more RTerm.steady (fun _ _ _ => trivial)).agree RTerm.steady (Below.agree hb)
theorem RdAtoms.up {S : Nat → Prop} {w w' : World} {v : Value} {l : List PAtom} (h : RdAtoms S w v l) (hb : Below w.heap.size w w') : RdAtoms (fun _ => True) w' v l := (h.more RAtom.steady (fun _ _ _ => trivial)).agree RAtom.steady (Below.agree hb)
theorem RdRules.up {S : Nat → Prop} {w w' : World} {v : Value} {l : List PRule} (h : RdRules S w v l) (hb : Below w.heap.size w w') : RdRules (fun _ => True) w' v l := (h.more RRule.steady (fun _ _ _ => trivial)).agree RRule.steady (Below.agree hb)
theorem RdStrs.up {S : Nat → Prop} {w w' : World} {v : Value} {l : List Str} (h : RdStrs S w v l) (hb : Below w.heap.size w w') : RdStrs (fun _ => True) w' v l := (h.more ζS (fun _ _ _ => trivial)).agree ζS (Below.agree hb)
theorem atomBad_ok {a : PAtom} (h1 : named a.name = true) (h2 : ¬ 4 < a.terms.length) (h : ∀ t ∈ a.terms,termOk t = true) : atomBad a = 0 := by
 unfold atomBad
 rw [h1,if_neg (by simp),if_neg h2,if_pos (List.all_eq_true.2 h)]
theorem atomBad_term {a : PAtom} (h1 : named a.name = true) (h2 : ¬ 4 < a.terms.length) {t : PTerm} (ht : t ∈ a.terms) (h : termOk t = false) : atomBad a = 7 := by
 unfold atomBad
 rw [h1,if_neg (by simp),if_neg h2,if_neg (fun hh => by have := List.all_eq_true.1 hh t ht;rw [h] at this;cases this)]
set_option maxRecDepth 100000 in
set_option maxHeartbeats 0 in
theorem checkAtom {S : Nat → Prop} (b o : Nat) (x : PAtom) (tv : Value) (w : World) (c0 : w.cell? ⟨b,o + 1,none⟩ = some (.string x.name)) (c1 : w.cell? ⟨b,o + 2,none⟩ = some tv) (h : RdTerms S w tv x.terms)
 (n1 : x.terms.length ≤ 1073741824) (n2 : ∀ t ∈ x.terms,t.name.size ≤ 1099511627776) :
 Calls Tryz.prog 77 #[.pointer (some ⟨b,o,none⟩)] w fun e w' => e = .returned (.int .i64 (atomBad x)) ∧ Below w.heap.size w w' := by
 obtain ⟨a,c,rfl,-,-,-⟩ := id h.form
 have H := ζ h
 have N2 := ζ n2
 clear h n2
 have KN := ζ (fun W => namedCalls x.name W)
 cases hn : named x.name
 ·rw [hn] at KN
  have HE := ζ (show atomBad x = 7 by unfold atomBad;rw [hn];rfl)
  clear hn
  go_enter Tryz.func77,Tryz.ntmps77
  go_wp2_with (go_at_call 35;refine (KN.out _).mono ?_;rintro e w' ⟨rfl,rfl⟩)
  go_ret
  exact ⟨ret_int HE.out.symm,ζb _ _⟩
 rw [hn] at KN
 have HN := ζ hn
 clear hn
 by_cases h4 : 4 < x.terms.length
 ·have i4 : (4 : Int) < (x.terms.length : Int) := by omega
  have HE := ζ (show atomBad x = 5 by unfold atomBad;rw [HN.out,if_neg (by simp),if_pos h4])
  go_enter Tryz.func77,Tryz.ntmps77
  go_wp2_with (go_at_call 35;refine (KN.out _).mono ?_;rintro e w' ⟨rfl,rfl⟩)
  go_ret
  exact ⟨ret_int HE.out.symm,ζb _ _⟩
 have i4 : ¬ (4 : Int) < (x.terms.length : Int) := by omega
 go_enter Tryz.func77,Tryz.ntmps77
 go_wp2_with (go_at_call 35;refine (KN.out _).mono ?_;rintro e w' ⟨rfl,rfl⟩)
 go_loopw [22] (fun i wr => ∃ k : Nat,k ≤ x.terms.length ∧ i = .int .i64 k ∧ Hid (∀ t ∈ x.terms.take k,termOk t = true) ∧ Hid (Below w.heap.size w wr)) (fun i _ => x.terms.length - (intOf i).toNat)
 case atStart => exact ⟨0,Nat.zero_le _,rfl,ζ (by simp),ζb _ _⟩
 case round =>
  obtain ⟨k,hk,rfl,HO,HB⟩ := hrel
  by_cases hlt : k < x.terms.length
  ·obtain ⟨t,ht⟩ : ∃ t,x.terms[k]? = some t := ⟨_,ζe hlt⟩
   obtain ⟨b1,o1,rfl,-,-,d0,d1⟩ := RdTerms.at (H.out.up HB.out) ht
   have hsz := HB.out.size
   have hbb := HB.out.alloc hsz (.cells #[.bool t.var,.string t.name] 104)
   have HB1 := ζ hbb
   have HS1 := ζ (show termOk t = true → ∀ y ∈ x.terms.take (k + 1),termOk y = true from fun hy y hm => by
    rw [List.take_add_one,ht] at hm
    rcases List.mem_append.1 hm with hm | hm
    ·exact HO.out y hm
    ·obtain rfl : y = t := by simpa using hm
     exact hy)
   have HBD := ζ (show termOk t = false → atomBad x = 7 from fun hy => atomBad_term HN.out h4 (ζm ht) hy)
   have KV := ζ (fun W => variableCalls t.name W (N2.out t (ζm ht)))
   have KM := ζ (fun W => namedCalls t.name W)
   clear ht hbb
   have hto : termOk t = if t.var then variableS t.name else named t.name := rfl
   rw [hto] at HS1 HBD
   clear hto
   cases hv : t.var
   all_goals
    rw [hv] at HS1 HBD d0 HB1
    clear hv
   ·have hm : named t.name = true ∨ named t.name = false := by cases named t.name <;> simp
    rcases hm with hm | hm
    ·rw [hm] at KM
     have HO1 := ζ (HS1.out (by simpa using hm))
     clear hm HS1 HBD
     go_wp2_with (go_at_call 35;refine (KM.out _).mono ?_;rintro e w' ⟨rfl,rfl⟩)
     go_roundw
     case rel => exact ⟨k + 1,by omega,by go_num,HO1,HB1⟩
     case measure => simp [intOf];omega
    ·rw [hm] at KM
     have HE := ζ (HBD.out (by simpa using hm))
     clear hm HS1 HBD
     go_wp2_with (go_at_call 35;refine (KM.out _).mono ?_;rintro e w' ⟨rfl,rfl⟩)
     go_ret
     exact ⟨ret_int HE.out.symm,HB1.out⟩
   ·have hm : variableS t.name = true ∨ variableS t.name = false := by cases variableS t.name <;> simp
    rcases hm with hm | hm
    ·rw [hm] at KV
     have HO1 := ζ (HS1.out (by simpa using hm))
     clear hm HS1 HBD
     go_wp2_with (go_at_call 97;refine (KV.out _).mono ?_;rintro e w' ⟨rfl,rfl⟩)
     go_roundw
     case rel => exact ⟨k + 1,by omega,by go_num,HO1,HB1⟩
     case measure => simp [intOf];omega
    ·rw [hm] at KV
     have HE := ζ (HBD.out (by simpa using hm))
     clear hm HS1 HBD
     go_wp2_with (go_at_call 97;refine (KV.out _).mono ?_;rintro e w' ⟨rfl,rfl⟩)
     go_ret
     exact ⟨ret_int HE.out.symm,HB1.out⟩
  ·have HE := ζ (show atomBad x = 0 from atomBad_ok HN.out h4 (by have := HO.out;rwa [List.take_of_length_le (by omega)] at this))
   go_wp2
   go_ret
   exact ⟨ret_int HE.out.symm,HB.out⟩
set_option maxRecDepth 100000 in
set_option maxHeartbeats 0 in
theorem varsCalls {S : Nat → Prop} (x : PAtom) (tv : Value) (w : World) (h : RdTerms S w tv x.terms) (n1 : x.terms.length ≤ 1073741824) :
 Calls Tryz.prog 79 #[.agg #[.bool x.neg,.string x.name,tv]] w fun e w' => (∃ v,e = .returned v ∧ Owned 1 RStr w.heap.size 9 (fun _ => False) w' v (varsOf x)) ∧ Below w.heap.size w w' := by
 obtain ⟨a,c,rfl,-,-,-⟩ := id h.form
 have H := ζ h
 clear h
 go_enter Tryz.func79,Tryz.ntmps79
 go_wp2
 go_loopw [9,3] (fun i v wr => ∃ k : Nat,k ≤ x.terms.length ∧ i = .int .i64 k ∧ Hid (Owned 1 RStr w.heap.size 9 (fun _ => False) wr v (varsF [] (x.terms.take k))) ∧ Hid (Below w.heap.size w wr)) (fun i _ _ => x.terms.length - (intOf i).toNat)
 case atStart => exact ⟨0,Nat.zero_le _,rfl,ζ Owned.nil,ζ ((ζb _ _).alloc (ζn _) _)⟩
 case round =>
  obtain ⟨k,hk,rfl,HO,HB⟩ := hrel
  by_cases hlt : k < x.terms.length
  ·obtain ⟨t,ht⟩ : ∃ t,x.terms[k]? = some t := ⟨_,ζe hlt⟩
   obtain ⟨b1,o1,rfl,-,-,d0,d1⟩ := RdTerms.at (H.out.up HB.out) ht
   have hsz := HB.out.size
   have HT := ζ (show varsF [] (x.terms.take (k + 1)) = if t.var && !memS t.name (varsF [] (x.terms.take k)) then varsF [] (x.terms.take k) ++ [t.name] else varsF [] (x.terms.take k) by rw [List.take_add_one,ht];exact varsF_snoc t _ _)
   have HLL := ζ (show (varsF [] (x.terms.take k)).length ≤ x.terms.length by have := varsF_length (x.terms.take k) [];rw [List.length_take] at this;simp at this;omega)
   generalize varsF [] (x.terms.take k) = vs at *
   obtain ⟨va,vc,rfl,-,-,-⟩ := id (HO.out.read ζS).form
   have KC := ζ (containsStr (.slice va vs.length vc) vs t.name (wr.alloc (.cells #[.bool t.var,.string t.name] 104)) ((HO.out.read ζS).agree ζS ((Agree.refl _ _).alloc _)) (by have := HLL.out;omega))
   have HB1 := ζ (HB.out.alloc hsz (.cells #[.bool t.var,.string t.name] 104))
   have HO1 := ζ (HO.out.alloc ζS (.cells #[.bool t.var,.string t.name] 104))
   clear ht
   cases hv : t.var
   ·rw [hv] at HT KC HB1 HO1 d0
    have HO2 := ζ (show Owned 1 RStr w.heap.size 9 (fun _ => False) _ _ (varsF [] (x.terms.take (k + 1))) by rw [HT.out,if_neg (by simp)];exact HO1.out)
    clear hv
    go_wp2
    go_roundw
    case rel => exact ⟨k + 1,by omega,by go_num,HO2,HB1⟩
    case measure => simp [intOf];omega
   ·rw [hv] at HT KC HB1 HO1 d0
    clear hv
    have hm : memS t.name vs = true ∨ memS t.name vs = false := by cases memS t.name vs <;> simp
    rcases hm with hm | hm
    ·rw [hm] at KC HT
     have HO2 := ζ (show Owned 1 RStr w.heap.size 9 (fun _ => False) _ _ (varsF [] (x.terms.take (k + 1))) by rw [HT.out,if_neg (by simp)];exact HO1.out)
     clear hm
     go_wp2_with (go_at_call 80;refine (KC.out).mono ?_;rintro e w' ⟨rfl,rfl⟩)
     go_roundw
     case rel => exact ⟨k + 1,by omega,by go_num,HO2,HB1⟩
     case measure => simp [intOf];omega
    ·rw [hm,if_pos (by rfl)] at HT
     rw [hm] at KC
     clear hm
     go_wp2_with (first
      | (go_at_call 80;refine (KC.out).mono ?_;rintro e w' ⟨rfl,rfl⟩)
      | (at_builtin;refine wpList_append_one (B := w.heap.size) (e := 9) (S := fun _ => False) (by rfl) _ _ 25 (by rfl) ζS rowStrs _ vs (by rfl) (HO1.out.alloc ζS _) (wr.heap.size + 1) 1 #[.string t.name] 9 (0,0) t.name (by rfl) (heap_new_at (by simp)) rfl (by simp [Value.oneCell']) rfl (by have := HLL.out;omega) (by simp;omega) ?_;intro v2 w2 hown2 hg2 hat2;have HO2 := ζ (show Owned 1 RStr w.heap.size 9 (fun _ => False) w2 v2 (varsF [] (x.terms.take (k + 1))) by rw [HT.out];exact hown2);have HB2 := ζ ((HB1.out.alloc (by simp;omega) _).grown hg2 (by simp;omega) (fun q hq => (HO1.out.row_lt hq).1));clear hown2 hg2 hat2))
     go_wp2
     go_roundw
     case rel => exact ⟨k + 1,by omega,by go_num,HO2,HB2⟩
     case measure => simp [intOf];omega
  ·have htk : x.terms.take k = x.terms := List.take_of_length_le (by omega)
   rw [htk] at HO
   clear htk
   go_wp2
   go_ret
   exact ⟨⟨_,rfl,HO.out⟩,HB.out⟩
end
end Go.Proofs.YtdngkcieckejoaaGreat
