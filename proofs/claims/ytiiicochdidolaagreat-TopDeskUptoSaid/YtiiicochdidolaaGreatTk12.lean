/-
  THE TEXTS NaiveQ, NaiveW1, NaiveA, one behind the other.
-/
import Derived.Test.YtiiicochdidolaaGreatTk10
import Derived.Test.YtiiicochdidolaaGreatTk11
namespace Go.Proofs.YtiiicochdidolaaGreat
def Derives (r : PRule) (O : List PFact) (x : PFact) : Prop := ∃ m,Told (fun _ => O) r.body m ∧ fillP r.head m = some x
theorem Derives.name {r : PRule} {O : List PFact} {x : PFact} (h : Derives r O x) : x.name = r.head.name := by
  obtain ⟨m,-,h⟩ := h
  exact (fillP_name h).1.symm
theorem Derives.agree {r : PRule} {O M : List PFact} {x : PFact} (h : Derives r O x) (ha : ∀ a ∈ r.body,∀ f : PFact,f.name = a.name → (f ∈ O ↔ f ∈ M)) : Derives r M x := by
  obtain ⟨m,h1,h2⟩ := h
  exact ⟨m,told_agree ha h1,h2⟩
theorem Derives.grow {r : PRule} {O M : List PFact} {x : PFact} (h : Derives r O x) (hp : ∀ f ∈ O,f ∈ M) (hn : ∀ a ∈ r.body,a.neg = true → ∀ f : PFact,f.name = a.name → f ∈ M → f ∈ O) : Derives r M x := by
  obtain ⟨m,⟨h1,h2,h3,h4⟩,h5⟩ := h
  refine ⟨m,⟨h1,h2,h3,fun j a ha => ?_⟩,h5⟩
  obtain ⟨f,k1,k2⟩ := h4 j a ha
  refine ⟨f,k1,?_⟩
  have hm := List.mem_of_getElem? ha
  cases hneg : a.neg
  · rw [hneg] at k2
    have : f ∈ O := (memF_iff _ _).1 (by simpa using k2)
    rw [(memF_iff _ _).2 (hp f this)];rfl
  · rw [hneg] at k2
    have hno : ¬ f ∈ O := fun hf => by rw [(memF_iff _ _).2 hf] at k2;simp at k2
    have hno' : ¬ f ∈ M := fun hf => hno (hn a hm hneg f (fillP_name k1).1.symm hf)
    cases hmf : memF f M
    · rfl
    · exact absurd ((memF_iff _ _).1 hmf) hno'
theorem fillArgs_of {l : Binds} : ∀ {ts : List PTerm} {ns : List Str},fillArgs l ts = some ns → ∀ n ∈ ns,∃ t ∈ ts,valT l t = some n
  | [],ns,h,n,hn => by obtain rfl := Option.some.inj h;simp at hn
  | u :: ts,ns,h,n,hn => by
    unfold fillArgs at h
    cases hu : valT l u with
    | none => rw [hu] at h;cases h
    | some m =>
      rw [hu] at h
      dsimp only at h
      cases hr : fillArgs l ts with
      | none => rw [hr] at h;cases h
      | some r =>
        rw [hr] at h
        obtain rfl := Option.some.inj h
        rcases List.mem_cons.1 hn with rfl | hn
        · exact ⟨u,by simp,hu⟩
        · obtain ⟨t,h1,h2⟩ := fillArgs_of hr n hn
          exact ⟨t,by simp [h1],h2⟩
theorem fillArgs_to {l : Binds} : ∀ {ts : List PTerm} {ns : List Str},fillArgs l ts = some ns → ∀ t ∈ ts,∃ n ∈ ns,valT l t = some n
  | u :: ts,ns,h,t,ht => by
    unfold fillArgs at h
    cases hu : valT l u with
    | none => rw [hu] at h;cases h
    | some m =>
      rw [hu] at h
      dsimp only at h
      cases hr : fillArgs l ts with
      | none => rw [hr] at h;cases h
      | some r =>
        rw [hr] at h
        obtain rfl := Option.some.inj h
        rcases List.mem_cons.1 ht with rfl | ht
        · exact ⟨m,by simp,hu⟩
        · obtain ⟨n,h1,h2⟩ := fillArgs_to hr t ht
          exact ⟨n,by simp [h1],h2⟩
theorem wrongF_zero {f : PFact} : wrongF f = 0 ↔ named f.name = true ∧ f.args.length ≤ 4 ∧ ∀ n ∈ f.args,named n = true := by
  unfold wrongF
  cases h1 : named f.name
  · simp
  · rw [if_neg (by simp)]
    by_cases h2 : 4 < f.args.length
    · rw [if_pos h2];simp;omega
    · rw [if_neg h2]
      cases h3 : f.args.all named
      · rw [if_neg (by simp)]
        simp only [true_and]
        constructor
        · intro h;exact absurd h (by decide)
        · rintro ⟨-,h⟩
          rw [List.all_eq_true.2 h] at h3;cases h3
      · rw [if_pos rfl]
        simp only [true_and,true_iff]
        exact ⟨by omega,List.all_eq_true.1 h3⟩
theorem atomBad_zero {a : PAtom} (h : atomBad a = 0) : named a.name = true ∧ a.terms.length ≤ 4 ∧ ∀ t ∈ a.terms,termOk t = true := by
  unfold atomBad at h
  cases h1 : named a.name
  · rw [if_pos h1] at h;exact absurd h (by decide)
  · rw [if_neg (by simp [h1])] at h
    by_cases h2 : 4 < a.terms.length
    · rw [if_pos h2] at h;exact absurd h (by decide)
    · rw [if_neg h2] at h
      by_cases h3 : a.terms.all termOk = true
      · exact ⟨rfl,by omega,List.all_eq_true.1 h3⟩
      · rw [if_neg h3] at h;exact absurd h (by decide)
theorem ruleBad_zero {r : PRule} (h : ruleBad r = 0) : atomBad r.head = 0 ∧ r.head.neg = false ∧ bodyBad r.body = 0 ∧ ∀ v ∈ varsOf r.head,∃ a ∈ r.body,v ∈ varsOf a := by
  unfold ruleBad at h
  by_cases h1 : atomBad r.head = 0
  case neg => rw [if_pos h1] at h;exact absurd h h1
  rw [if_neg (by simpa using h1)] at h
  cases h2 : r.head.neg
  case true => rw [if_pos h2] at h;exact absurd h (by decide)
  rw [if_neg (by simp [h2])] at h
  by_cases h3 : bodyBad r.body = 0
  case neg => rw [if_pos h3] at h;exact absurd h h3
  rw [if_neg (by simpa using h3)] at h
  refine ⟨h1,rfl,h3,fun v hv => ?_⟩
  by_cases h4 : (varsOf r.head).all (fun v => memS v (allVars r.body)) = true
  · have := List.all_eq_true.1 h4 v hv
    have hm := (memS_iff _ _).1 this
    unfold allVars at hm
    obtain ⟨a,ha,hva⟩ := List.mem_flatMap.1 hm
    exact ⟨a,ha,hva⟩
  · rw [if_neg h4] at h;exact absurd h (by decide)
theorem derives_good {r : PRule} {O : List PFact} {x : PFact} (hr : ruleBad r = 0) (hO : ∀ f ∈ O,wrongF f = 0) (h : Derives r O x) : wrongF x = 0 := by
  obtain ⟨m,⟨-,hnd,hvs,htold⟩,hf⟩ := h
  obtain ⟨h1,-,h3,-⟩ := ruleBad_zero hr
  obtain ⟨g1,g2,g3⟩ := atomBad_zero h1
  obtain ⟨k1,k2⟩ := fillP_name hf
  refine wrongF_zero.2 ⟨by rw [← k1];exact g1,by have := fillArgs_len k2;omega,fun n hn => ?_⟩
  obtain ⟨t,ht,hv⟩ := fillArgs_of k2 n hn
  have hok := g3 t ht
  unfold valT at hv
  cases htv : t.var
  · rw [htv] at hv
    obtain rfl : t.name = n := by simpa using hv
    unfold termOk at hok
    rw [htv] at hok
    simpa using hok
  · rw [htv] at hv
    simp only [if_true] at hv
    have hm : t.name ∈ Vs m := List.mem_map.2 ⟨_,getB_mem hv,rfl⟩
    obtain ⟨a,ha,hva⟩ := (hvs _).1 hm
    obtain ⟨a,ha,hneg,hva⟩ := (mem_heldOf _ _).1 (body_free h3 ha hva)
    obtain ⟨j,hj⟩ := List.mem_iff_getElem?.1 ha
    obtain ⟨f,q1,q2⟩ := htold j a hj
    rw [hneg] at q2
    have hfO : f ∈ O := (memF_iff _ _).1 (by simpa using q2)
    obtain ⟨u,hu,huv,hun⟩ := (mem_varsOf _ a).1 hva
    obtain ⟨n',hn',hv'⟩ := fillArgs_to (fillP_name q1).2 u hu
    unfold valT at hv'
    rw [if_pos huv,hun,hv] at hv'
    obtain rfl := Option.some.inj hv'
    exact (wrongF_zero.1 (hO f hfO)).2.2 _ hn'
def withL (L : Str → Nat) (p : List PRule) : List (PRule × Int) := p.map fun r => (r,(L r.head.name : Int))
theorem zip_withL (L : Str → Nat) (p : List PRule) : p.zip (p.map fun r => (L r.head.name : Int)) = withL L p := by
  unfold withL
  induction p with
  | nil => rfl
  | cons r p ih => rw [List.map_cons,List.zip_cons_cons,ih,List.map_cons]
theorem mem_withL {L : Str → Nat} {p : List PRule} {r : PRule} {s : Int} : (r,s) ∈ withL L p ↔ r ∈ p ∧ s = (L r.head.name : Int) := by
  unfold withL
  rw [List.mem_map]
  constructor
  · rintro ⟨q,hq,e⟩
    injection e with e1 e2
    subst e1
    exact ⟨hq,e2.symm⟩
  · rintro ⟨h,rfl⟩
    exact ⟨r,h,rfl⟩
structure Upto (p : List PRule) (L : Str → Nat) (l : List PFact) (i : Nat) (out : List PFact) : Prop where
  sub : ∀ x ∈ l,x ∈ out
  closed : ∀ r ∈ p,L r.head.name < i → ∀ x,Derives r out x → x ∈ out
  made : ∀ x ∈ out,x ∈ l ∨ ∃ r ∈ p,L r.head.name < i ∧ Derives r out x
  good : ∀ x ∈ out,wrongF x = 0
  rise : Rising out
  len : out.length ≤ 200
theorem Upto.step {p : List PRule} {L : Str → Nat} (hS : Sol p L) (hR : ∀ r ∈ p,ruleBad r = 0) {l : List PFact} {i : Nat} {out : List PFact} (h : Upto p L l i out) (he : (fixP (withL L p) i 201 out).2 = 0) : Upto p L l (i + 1) (fixP (withL L p) i 201 out).1 := by
  have hF := fix_fixed (by omega) he h.rise h.len
  generalize (fixP (withL L p) i 201 out).1 = M at *
  have hnew : ∀ x ∈ M,x ∈ out ∨ ∃ r ∈ p,L r.head.name = i ∧ x.name = r.head.name := fun x hx => by
    rcases hF.made x hx with h1 | ⟨O,r,s,-,-,h3,h4,h5,h6⟩
    · exact .inl h1
    · obtain ⟨h7,rfl⟩ := mem_withL.1 h3
      exact .inr ⟨r,h7,by omega,Derives.name ((mem_heads h5 x).1 h6)⟩
  have hag : ∀ r ∈ p,L r.head.name < i → ∀ a ∈ r.body,∀ f : PFact,f.name = a.name → (f ∈ out ↔ f ∈ M) := fun r hr hlt a ha f hf => ⟨hF.sub f,fun hm => by
    rcases hnew f hm with h1 | ⟨r',h1,h2,h3⟩
    · exact h1
    · have := hS.up r hr a ha
      rw [← hf,h3] at this
      omega⟩
  refine ⟨fun x hx => hF.sub x (h.sub x hx),fun r hr hlt x hx => ?_,fun x hx => ?_,fun x hx => ?_,hF.rise,hF.len⟩
  · by_cases hi : L r.head.name < i
    · exact hF.sub x (h.closed r hr hi x (hx.agree fun a ha f hf => (hag r hr hi a ha f hf).symm))
    · obtain ⟨h1,h2⟩ := hF.ok r (L r.head.name) (mem_withL.2 ⟨hr,rfl⟩) (by omega)
      exact h2 x ((mem_heads h1 x).2 hx)
  · rcases hF.made x hx with h1 | ⟨O,r,s,h1,h2,h3,h4,h5,h6⟩
    · rcases h.made x h1 with h2 | ⟨r,hr,hlt,hd⟩
      · exact .inl h2
      · exact .inr ⟨r,hr,by omega,hd.agree (hag r hr hlt)⟩
    · obtain ⟨h7,rfl⟩ := mem_withL.1 h3
      refine .inr ⟨r,h7,by omega,(show Derives r O x from (mem_heads h5 x).1 h6).grow h2 fun a ha hneg f hf hm => ?_⟩
      rcases hnew f hm with k1 | ⟨r',k1,k2,k3⟩
      · exact h1 f k1
      · exfalso
        have hup := hS.up r h7 a ha
        have hdl : dl p a = 1 := by
          unfold dl
          rw [if_pos ⟨hneg,List.mem_map.2 ⟨r',k1,by rw [← hf,k3]⟩⟩]
        rw [hdl,← hf,k3] at hup
        omega
  · rcases hF.made x hx with h1 | ⟨O,r,s,h1,h2,h3,h4,h5,h6⟩
    · exact h.good x h1
    · obtain ⟨h7,rfl⟩ := mem_withL.1 h3
      exact derives_good (hR r h7) (setF_set (heads_set h5).1).2.2 ((mem_heads h5 x).1 h6)
theorem run_upto {p : List PRule} {L : Str → Nat} (hS : Sol p L) (hR : ∀ r ∈ p,ruleBad r = 0) {l : List PFact} : ∀ {k i : Nat} {out : List PFact},Upto p L l i out → (runP (withL L p) k i out).2 = 0 → Upto p L l (i + k) (runP (withL L p) k i out).1
  | 0,i,out,h,_ => h
  | k + 1,i,out,h,he => by
    obtain ⟨h1,h2⟩ := run_step he
    rw [h2] at he ⊢
    have := run_upto (k := k) (i := i + 1) hS hR (h.step hS hR h1) he
    rwa [show i + 1 + k = i + (k + 1) by omega] at this
theorem max_le : ∀ (l : List Int) (x : Int),x ≤ l.foldl max x ∧ ∀ y ∈ l,y ≤ l.foldl max x
  | [],x => ⟨Int.le_refl _,by simp⟩
  | z :: l,x => by
    obtain ⟨h1,h2⟩ := max_le l (max x z)
    rw [List.foldl_cons]
    refine ⟨by omega,fun y hy => ?_⟩
    rcases List.mem_cons.1 hy with rfl | hy
    · omega
    · exact h2 y hy
theorem count_gt {st : List Int} {x : Int} (h : x ∈ st) : x < countP st := by
  cases st with
  | nil => simp at h
  | cons y l =>
    show x < l.foldl max y + 1
    obtain ⟨h1,h2⟩ := max_le l y
    rcases List.mem_cons.1 h with rfl | h
    · omega
    · have := h2 x h;omega
structure Follows (p : List PRule) (l M : List PFact) : Prop where
  sub : ∀ x ∈ l,x ∈ M
  closed : ∀ r ∈ p,∀ x,Derives r M x → x ∈ M
  made : ∀ x ∈ M,x ∈ l ∨ ∃ r ∈ p,Derives r M x
  good : ∀ x ∈ M,wrongF x = 0
  rise : Rising M
  len : M.length ≤ 200
theorem setF_of {l : List PFact} (h1 : l.length ≤ 200) (h2 : Rising l) (h3 : ∀ f ∈ l,wrongF f = 0) : setF l = (0,0) := by
  unfold setF
  rw [if_neg (by omega)]
  have : (List.range l.length).find? (fun i => badAt l i != 0) = none := by
    rw [List.find?_range_eq_none]
    intro i hi
    obtain ⟨f,hf⟩ : ∃ f,l[i]? = some f := ⟨_,List.getElem?_eq_getElem hi⟩
    have hw := h3 f (List.mem_of_getElem? hf)
    rcases i with _ | i
    · simp [badAt_zero hf hw]
    · obtain ⟨g,hg⟩ : ∃ g,l[i]? = some g := ⟨_,List.getElem?_eq_getElem (by omega)⟩
      rw [badAt_succ hf hg hw,if_pos]
      · simp
      · obtain ⟨a1,a2⟩ := List.getElem?_eq_some_iff.1 hg
        obtain ⟨b1,b2⟩ := List.getElem?_eq_some_iff.1 hf
        have := List.pairwise_iff_getElem.1 h2 i (i + 1) a1 b1 (by omega)
        rw [a2,b2] at this
        simpa [ltF] using this
  rw [this]
theorem wrongFrom_rules : ∀ {p : List PRule} {m : Known} {i : Int},(wrongFrom m i p).1 = 0 → ∀ r ∈ p,ruleBad r = 0
  | q :: p,m,i,h,r,hr => by
    unfold wrongFrom at h
    by_cases h1 : ruleBad q = 0
    case neg => rw [if_pos h1] at h;exact absurd h h1
    rw [if_neg (by simpa using h1)] at h
    split at h
    · rcases List.mem_cons.1 hr with rfl | hr
      · exact h1
      · exact wrongFrom_rules h r hr
    · exact absurd h (by simp)
theorem wrongP_rules {p : List PRule} (h : (wrongP p).1 = 0) : ∀ r ∈ p,ruleBad r = 0 := by
  unfold wrongP at h
  split at h
  · exact absurd h (by decide)
  · exact wrongFrom_rules h
theorem naive_zero {st : List Int} {q : Int} {p : List PRule} {l : List PFact} (h : (naiveP st q p l).2 = 0) : q = 0 ∧ (factsBad p l).1 = 0 ∧ naiveP st q p l = runP (p.zip st) (countP st).toNat 0 l := by
  unfold naiveP at *
  by_cases h1 : q = 0
  case neg => rw [if_pos h1] at h;exact absurd h h1
  rw [if_neg (by simpa using h1)] at h ⊢
  by_cases h2 : (factsBad p l).1 = 0
  case neg => rw [if_pos h2] at h;exact absurd h h2
  rw [if_neg (by simpa using h2)] at h ⊢
  exact ⟨h1,h2,rfl⟩
theorem factsBad_set {p : List PRule} {l : List PFact} (h : (factsBad p l).1 = 0) : (setF l).1 = 0 := by
  unfold factsBad at h
  by_cases h1 : (setF l).1 = 0
  · exact h1
  · rw [if_pos h1] at h;exact absurd h h1
theorem strata_zero {p : List PRule} {st : List Int} {q : Int × Int} (hs : StrataIs p st q) (hq : q.1 = 0) : (∀ r ∈ p,ruleBad r = 0) ∧ (wrongP p).1 = 0 ∧ ∃ L,Least p L ∧ st = p.map (fun r => (L r.head.name : Int)) := by
  rcases hs with ⟨h1,-,rfl⟩ | ⟨h1,⟨L,hL,h2,-⟩ | ⟨-,-,rfl⟩⟩
  · exact absurd hq h1
  · exact ⟨wrongP_rules h1,h1,L,hL,h2⟩
  · exact absurd hq (by decide)
theorem naive_follows {p : List PRule} {l : List PFact} {st : List Int} {q : Int × Int} (hs : StrataIs p st q) (h : (naiveP st q.1 p l).2 = 0) : Follows p l (naiveP st q.1 p l).1 ∧ (setF l).1 = 0 ∧ ∀ r ∈ p,ruleBad r = 0 := by
  obtain ⟨h1,h2,h3⟩ := naive_zero h
  obtain ⟨hR,hW,L,hL,rfl⟩ := strata_zero hs h1
  have hset := factsBad_set h2
  obtain ⟨g1,g2,g3⟩ := setF_set hset
  rw [h3] at h ⊢
  rw [zip_withL] at h ⊢
  have h0 : Upto p L l 0 l := ⟨fun x hx => hx,fun r _ hlt => by omega,fun x hx => .inl hx,g3,g2,g1⟩
  have hU := run_upto (k := (countP (p.map fun r => (L r.head.name : Int))).toNat) (i := 0) hL.sol hR h0 h
  have hcnt : ∀ r ∈ p,L r.head.name < 0 + (countP (p.map fun r => (L r.head.name : Int))).toNat := fun r hr => by
    have := count_gt (st := p.map fun r => (L r.head.name : Int)) (List.mem_map.2 ⟨r,hr,rfl⟩)
    omega
  refine ⟨⟨hU.sub,fun r hr x hx => hU.closed r hr (hcnt r hr) x hx,fun x hx => ?_,hU.good,hU.rise,hU.len⟩,hset,hR⟩
  · rcases hU.made x hx with h | ⟨r,hr,-,hd⟩
    · exact .inl h
    · exact .inr ⟨r,hr,hd⟩
theorem Follows.set {p : List PRule} {l M : List PFact} (h : Follows p l M) : setF M = (0,0) := setF_of h.len h.rise h.good
end Go.Proofs.YtiiicochdidolaaGreat
namespace Go.Proofs.YtiiicochdidolaaGreat
open Go.RowKit
theorem foldl_max_bd (b : Int) : ∀ (l : List Int) (x : Int),0 ≤ x → x ≤ b → (∀ z ∈ l,0 ≤ z ∧ z ≤ b) → 0 ≤ l.foldl max x ∧ l.foldl max x ≤ b
  | [],x,h1,h2,_ => ⟨h1,h2⟩
  | z :: l,x,h1,h2,h => by
    rw [List.foldl_cons]
    have := h z (by simp)
    exact foldl_max_bd b l (max x z) (by omega) (by omega) fun y hy => h y (by simp [hy])
theorem foldl_take_snoc {l : List Int} {k : Nat} {z x : Int} (h : l[k]? = some z) : (l.take (k + 1)).foldl max x = max ((l.take k).foldl max x) z := by
  rw [List.take_add_one,h,List.foldl_append];rfl
set_option maxRecDepth 100000 in
set_option maxHeartbeats 2000000 in
theorem maxInts {S : Nat → Prop} (v : Value) (x : Int) (l : List Int) (w : World) (h : RdInts S w v (x :: l)) (n1 : (x :: l).length ≤ 1048576) :
    Calls Tryz.prog 108 #[v] w fun e w' => e = .returned (.int .i64 (l.foldl max x)) ∧ w' = w := by
  obtain ⟨a,c,rfl,-,-,-⟩ := id h.form
  have H := Lib.hid h
  clear h
  simp only [List.length_cons] at n1
  have hlen : (x :: l).length = l.length + 1 := rfl
  obtain ⟨b0,o0,rfl,-,-,d0⟩ := RdInts.at H.out (i := 0) rfl
  rw [hlen] at H ⊢
  obtain ⟨n,hn⟩ : ∃ n,l.length + 1 = n := ⟨_,rfl⟩
  rw [hn]
  have i1 : ¬ ((n : Int) < 1) := by omega
  have i2 : (0 : Int) < (n : Int) := by omega
  have d0' : w.cell? ⟨b0,o0,none⟩ = some (.int .i64 x) := by simpa using d0
  go_enter Tryz.func108,Tryz.ntmps108
  go_wp2
  go_loop [4,3] (fun i m => ∃ k : Nat,k ≤ l.length ∧ i = .int .i64 ((k + 1 : Nat) : Int) ∧ m = .int .i64 ((l.take k).foldl max x)) (fun i _ => n - (intOf i).toNat)
  case atStart => exact ⟨0,Nat.zero_le _,rfl,rfl⟩
  case round =>
    obtain ⟨k,hk,rfl,rfl⟩ := hrel
    by_cases hlt : k < l.length
    · obtain ⟨z,hz⟩ : ∃ z,l[k]? = some z := ⟨_,List.getElem?_eq_getElem hlt⟩
      obtain ⟨b1,o1,e1,-,-,d1⟩ := RdInts.at H.out (i := k + 1) (x := z) (by simpa using hz)
      injection e1 with e1
      injection e1 with e2 e3 _
      subst e2 e3
      have HZ := Lib.hid (foldl_take_snoc (x := x) hz)
      have i3 : ((k + 1 : Nat) : Int) < (n : Int) := by omega
      have i4 : (0 : Int) ≤ ((k + 1 : Nat) : Int) := by omega
      clear hz
      generalize (l.take k).foldl max x = m at *
      go_wp2
      all_goals
        go_round
        case rel => exact ⟨k + 1,by omega,by go_num,by rw [HZ.out];try (first | rfl | (rw [Int.max_def];split <;> first | rfl | (exfalso;omega)))⟩
        case measure => simp [intOf];omega
    · have i3 : ¬ (((k + 1 : Nat) : Int) < (n : Int)) := by omega
      have hk' : l.take k = l := List.take_of_length_le (by omega)
      rw [hk']
      go_wp2
      go_ret
      exact ⟨rfl,rfl⟩
set_option maxRecDepth 100000 in
theorem countCalls {S : Nat → Prop} (v : Value) (l : List Int) (w : World) (h : RdInts S w v l) (n1 : l.length ≤ 1048576) (n2 : ∀ z ∈ l,0 ≤ z ∧ z ≤ 1048576) :
    Calls Tryz.prog 76 #[v] w fun e w' => e = .returned (.int .i64 (countP l)) ∧ w' = w := by
  obtain ⟨a,c,rfl,-,-,-⟩ := id h.form
  cases l with
  | nil =>
    go_enter Tryz.func76,Tryz.ntmps76
    go_wp2
    go_ret
    exact ⟨rfl,rfl⟩
  | cons x l =>
    have K := Lib.hid (maxInts _ x l w h n1)
    obtain ⟨g1,g2⟩ := foldl_max_bd 1048576 l x (n2 x (by simp)).1 (n2 x (by simp)).2 fun z hz => n2 z (by simp [hz])
    have HC := Lib.hid (show countP (x :: l) = l.foldl max x + 1 from rfl)
    simp only [List.length_cons] at *
    obtain ⟨n,hn⟩ : ∃ n,l.length + 1 = n := ⟨_,rfl⟩
    rw [hn] at K ⊢
    have i1 : ¬ ((n : Int) = 0) := by omega
    generalize l.foldl max x = m at *
    clear h n2 hn
    go_enter Tryz.func76,Tryz.ntmps76
    go_wp2_with (go_at_call 108;refine (K.out).mono ?_;rintro e w1 ⟨rfl,rfl⟩)
    go_ret
    exact ⟨by rw [HC.out];rfl,rfl⟩
def FactsPost (r : List PFact × Int) (w : World) (e : Ending) (w' : World) : Prop :=
  Below w.heap.size w w' ∧ ∃ v,e = .returned (.tuple #[v,.int .i64 r.2]) ∧ Owned 2 RFact w.heap.size 38 (New w) w' v r.1
theorem facts_err {r : List PFact × Int} {n : Int} {w w' : World} (h : r = ([],n)) (hb : Below w.heap.size w w') : FactsPost r w (.returned (.tuple #[.slice none 0 0,.int .i64 n])) w' := by
  subst h;exact ⟨hb,_,rfl,Owned.nil⟩
theorem facts_ok {r : List PFact × Int} {l : List PFact} {w w' : World} {v : Value} (h : r = (l,0)) (hb : Below w.heap.size w w') (ho : Owned 2 RFact w.heap.size 38 (New w) w' v l) : FactsPost r w (.returned (.tuple #[v,.int .i64 0])) w' := by
  subst h;exact ⟨hb,_,rfl,ho⟩
theorem fillNone {S S2 : Nat → Prop} {a : PAtom} {tv lv : Value} {l : Binds} {w : World} (hfl : fillP a l = none) (ht : RdTerms S w tv a.terms) (hl : RdBinds S2 w lv l) (n1 : a.terms.length ≤ 1048576) (n2 : l.length ≤ 1073741824) :
    Calls Tryz.prog 31 #[.agg #[.bool a.neg,.string a.name,tv],lv] w fun e w' => e = .returned (.tuple #[.agg #[.string ⟨#[]⟩,.slice none 0 0],.bool false]) ∧ Below w.heap.size w w' :=
  (fillCalls a tv lv l w ht hl n1 n2).mono fun e w' ⟨h1,h2⟩ => by
    rw [hfl] at h2
    exact ⟨h2,h1⟩
theorem filterMap_snoc {α β : Type} {f : α → Option β} {l : List α} {k : Nat} {x : α} (h : l[k]? = some x) : (l.take (k + 1)).filterMap f = (l.take k).filterMap f ++ (f x).toList := by
  rw [List.take_add_one,h,List.filterMap_append]
  simp only [Option.toList]
  cases hf : f x <;> simp [hf]
theorem filterMap_le {α β : Type} (f : α → Option β) (l : List α) (k : Nat) : ((l.take k).filterMap f).length ≤ k :=
  Nat.le_trans (List.length_filterMap_le _ _) (by rw [List.length_take];exact Nat.min_le_left _ _)
theorem RdBindss.at' {S : Nat → Prop} {w : World} {a : Option Addr} {n cap : Nat} {l : List Binds} (h : RdBindss S w (.slice a n cap) l) {i : Nat} {x : Binds} (hx : l[i]? = some x) :
    ∃ b off v,a = some ⟨b,off,none⟩ ∧ S b ∧ b < w.heap.size ∧ w.cell? ⟨b,off + i,none⟩ = some v ∧ RdBinds S w v x := by
  obtain ⟨a',cap',hv,_,_,_,h3⟩ := h
  obtain ⟨b,off,cs,ha,hS,hb,hk,hc,v,hr,hq⟩ := h3 i x hx
  injection hv with e1 e2 e3
  subst e1
  subst hr
  exact ⟨b,off,v,ha,hS,hb,by simpa using hc 0 _ rfl,hq⟩
theorem RFact.behind {B : Nat} {w W1 w1 w2 : World} {v v1 : Value} {l : List PFact} {x : PFact} {B2 : Nat} (hown : Owned 2 RFact B2 38 (fun b => B ≤ b) w v l) (hB : B ≤ w.heap.size) (hle : w.heap.size ≤ W1.heap.size) (hr1 : RdStrs (New W1) w1 v1 x.args) (ha : Agree (New W1) w1 w2) :
    RFact (fun b => B ≤ b ∧ some b ≠ v.ownBlock) w2 [.string x.name,v1] x :=
  ⟨v1,rfl,(hr1.agree RStr.steady ha).more RStr.steady fun b hb _ => ⟨by omega,fun e => by have := (hown.row_lt e.symm).2;omega⟩⟩
attribute [local go_sem ↓] Go.wp_at_zero Go.wp_at_succ
set_option maxRecDepth 100000 in
set_option maxHeartbeats 8000000 in
theorem headsCalls {S S2 S3 : Nat → Prop} (x : PRule) (tv bv fv : Value) (facts : List PFact) (w : World) (ht : RdTerms S w tv x.head.terms) (hb : RdAtoms S2 w bv x.body) (hf : RdFacts S3 w fv facts)
    (hs : RuleSmall x) (n4 : facts.length ≤ 1048576) (n5 : ∀ x ∈ facts,x.args.length ≤ 1048576) :
    Calls Tryz.prog 13 #[.agg #[.bool x.head.neg,.string x.head.name,tv,bv],fv] w (FactsPost (headsP x facts) w) := by
  obtain ⟨ta,tc,rfl,-,-,-⟩ := id ht.form
  obtain ⟨ba,bc,rfl,-,-,-⟩ := id hb.form
  obtain ⟨fa,fc,rfl,-,-,-⟩ := id hf.form
  have HT := Lib.hid ht
  have hn1 := hs.h1
  have HS := Lib.hid hs
  obtain ⟨W0,hW0⟩ : ∃ W0 : World,w.alloc (.cells #[.bool x.head.neg,.string x.head.name,.slice ta x.head.terms.length tc,.slice ba x.body.length bc] 62) = W0 := ⟨_,rfl⟩
  have hb0 : Below w.heap.size w W0 := by subst hW0;exact (Below.refl _ _).alloc (Nat.le_refl _) _
  have HK0 := Lib.hid (show Blk W0 w.heap.size 62 #[.bool x.head.neg,.string x.head.name,.slice ta x.head.terms.length tc,.slice ba x.body.length bc] by subst hW0;exact Blk.new w _ _)
  have hs0 : W0.heap.size = w.heap.size + 1 := by subst hW0;simp
  have HB0 := Lib.hid hb0
  have K := Lib.hid (allReads (.slice ba x.body.length bc) x.body (.slice fa facts.length fc) facts W0 (hb.up hb0) (hf.up hb0) hs.b0 hs.b1 hs.b2 n4 n5)
  have HSH := Lib.hid (all_short x.body facts)
  have HHP := Lib.hid (show headsP x facts = if (allP x.body facts).2 ≠ 0 then ([],(allP x.body facts).2) else (ofF ((allP x.body facts).1.filterMap fun b => fillP x.head b),0) from rfl)
  have q3 : W0.cell? ⟨w.heap.size,3,none⟩ = some (.slice ba x.body.length bc) := HK0.out.cell 3
  clear ht hb hf hs n4 n5 hb0
  generalize allP x.body facts = r at *
  obtain ⟨ls,q⟩ := r
  dsimp only at *
  by_cases hq : q = 0
  case neg =>
    have g1 : (q != 0) = true := by simpa using hq
    have HE := Lib.hid (show headsP x facts = ([],q) by rw [HHP.out,if_pos hq])
    clear hq HHP
    go_enter Tryz.func13,Tryz.ntmps13
    go_wp2_with (go_at_call 10;refine (K.out).mono ?_;rintro e w2 ⟨⟨a2,c2,rfl,hr2⟩,hb2⟩;have HB2 := Lib.hid (HB0.out.trans (hb2.mono (Below.size HB0.out)));clear hr2 hb2)
    go_ret2
    exact facts_err HE.out HB2.out
  subst hq
  have HE := Lib.hid (show headsP x facts = (ofF (ls.filterMap fun b => fillP x.head b),0) by rw [HHP.out,if_neg (by simp)])
  have hll : ls.length ≤ 20000 := HSH.out.1
  clear HHP
  go_enter Tryz.func13,Tryz.ntmps13
  go_wp2_with (go_at_call 10;refine (K.out).mono ?_;rintro e w2 ⟨⟨a2,c2,rfl,hr2⟩,hb2⟩;have HR2 := Lib.hid hr2;have HB2 := Lib.hid (HB0.out.trans (hb2.mono (Below.size HB0.out)));have HK2 := Lib.hid (HK0.out.below hb2 HK0.out.lt);have hs2 : w.heap.size + 1 ≤ w2.heap.size := (by have := hb2.size;omega);clear hr2 hb2)
  clear K HK0 HB0 q3 hW0 hs0
  obtain ⟨wo,hwo⟩ : ∃ wo : World,wo = w2 := ⟨_,rfl⟩
  subst hwo
  have HB0 := Lib.hid (Below.refl wo.heap.size wo)
  go_loopw [25,8] (fun i v wr => ∃ k : Nat,k ≤ ls.length ∧ i = .int .i64 k ∧ Hid (Owned 2 RFact wo.heap.size 38 (New wo) wr v ((ls.take k).filterMap fun b => fillP x.head b)) ∧ Hid (Below wo.heap.size wo wr)) (fun i _ _ => ls.length - (intOf i).toNat)
  case atStart => exact ⟨0,Nat.zero_le _,rfl,Lib.hid Owned.nil,HB0⟩
  case round =>
    clear HB0
    obtain ⟨k,hk,rfl,HO,HB⟩ := hrel
    have HBW := Lib.hid (HB2.out.trans (HB.out.mono (Below.size HB2.out)))
    have HKW := Lib.hid (HK2.out.below HB.out HK2.out.lt)
    by_cases hlt : k < ls.length
    · obtain ⟨l,hl⟩ : ∃ l,ls[k]? = some l := ⟨_,List.getElem?_eq_getElem hlt⟩
      obtain ⟨b1,o1,lv,rfl,-,hbl,d1,hlv⟩ := RdBindss.at' HR2.out hl
      have f1 := (cell_below HB.out hbl _).trans d1
      have hnl : l.length ≤ 1073741824 := by have := HSH.out.2 l (List.mem_of_getElem? hl);omega
      have e0 : wr.cell? ⟨w.heap.size,0,none⟩ = some (.bool x.head.neg) := HKW.out.cell 0
      have e1 : wr.cell? ⟨w.heap.size,1,none⟩ = some (.string x.head.name) := HKW.out.cell 1
      have e2 : wr.cell? ⟨w.heap.size,2,none⟩ = some (.slice ta x.head.terms.length tc) := HKW.out.cell 2
      have HSN := Lib.hid (filterMap_snoc (f := fun b => fillP x.head b) hl)
      have HLE := Lib.hid (filterMap_le (fun b => fillP x.head b) ls k)
      have hsz := HB.out.size
      clear d1 hl
      cases hfl : fillP x.head l with
      | none =>
        have KF := Lib.hid (fillNone hfl (HT.out.up HBW.out) (hlv.up HB.out) hn1 hnl)
        have HS1 := Lib.hid (show (ls.take (k + 1)).filterMap (fun b => fillP x.head b) = (ls.take k).filterMap (fun b => fillP x.head b) by rw [HSN.out];simp [hfl])
        clear hfl hlv HSN
        go_wp2_with (go_at_call 31;refine (KF.out).mono ?_;rintro e w3 ⟨rfl,hb3⟩;have HB3 := Lib.hid ((HB.out.trans (hb3.mono hsz)).alloc (Nat.le_trans hsz hb3.size) (.cells #[.string ⟨#[]⟩,.slice none 0 0] 38));have HO3 := Lib.hid ((HO.out.below RFact.steady hb3).alloc RFact.steady (.cells #[.string ⟨#[]⟩,.slice none 0 0] 38));clear hb3)
        go_roundw
        case rel => exact ⟨k + 1,by omega,by go_num,by rw [HS1.out];exact HO3,HB3⟩
        case measure => simp [intOf];omega
      | some f =>
        have KF := Lib.hid (fillKnown hfl (HT.out.up HBW.out) (hlv.up HB.out) hn1 hnl)
        have HS1 := Lib.hid (show (ls.take (k + 1)).filterMap (fun b => fillP x.head b) = (ls.take k).filterMap (fun b => fillP x.head b) ++ [f] by rw [HSN.out];simp [hfl])
        clear hfl hlv HSN
        generalize (ls.take k).filterMap (fun b => fillP x.head b) = out at *
        have hol := HLE.out
        go_wp2_with (first
          | (go_at_call 31;refine (KF.out).mono ?_;rintro e w3 ⟨⟨av,ac,rfl,hr3⟩,hb3⟩;have HB3 := Lib.hid (HB.out.trans (hb3.mono hsz));have HO3 := Lib.hid (HO.out.below RFact.steady hb3);have HR3 := Lib.hid hr3;have hs3 : wr.heap.size ≤ w3.heap.size := hb3.size;clear hb3 hr3)
          | (at_builtin;refine wpList_append_one (B := wo.heap.size) (e := 38) (S := New wo) (by rfl) _ _ 24 (by rfl) RFact.steady rowFacts _ out (by rfl) ((HO3.out.alloc RFact.steady _).alloc RFact.steady _) (w3.heap.size + 1) 1 #[.string f.name,.slice av f.args.length ac] 38 (0,0) f (by rfl) (heap_new_at (by simp)) rfl (by simp [Value.oneCell']) (RFact.behind HO.out hsz (Nat.le_refl _) HR3.out (((Agree.refl _ _).alloc _).alloc _)) (by omega) (by simp;omega) ?_;intro v4 w4 hown4 hg4 hat4;rw [← HS1.out] at hown4;have HO4 := Lib.hid hown4;have HB4 := Lib.hid ((((HB3.out.alloc (by omega) _).alloc (by simp;omega) _).grown hg4 (by simp;omega) (fun q hq => (HO3.out.row_lt hq).1)));clear hown4 hg4 hat4))
        go_roundw
        case rel => exact ⟨k + 1,by omega,by go_num,HO4,HB4⟩
        case measure => simp [intOf];omega
    · have htk : ls.take k = ls := List.take_of_length_le (by omega)
      rw [htk] at HO
      have hle : (ls.filterMap fun b => fillP x.head b).length ≤ 1073741824 := Nat.le_trans (List.length_filterMap_le _ _) (by omega)
      have hal : ∀ y ∈ ls.filterMap (fun b => fillP x.head b),y.args.length ≤ 1073741824 := fun y hy => by
        obtain ⟨b,-,hb⟩ := List.mem_filterMap.1 hy
        rw [fill_args hb];omega
      have KO := Lib.hid (ofCalls _ _ wr (HO.out.read RFact.steady) hle hal)
      clear htk hle hal
      generalize (ls.filterMap fun b => fillP x.head b) = out at *
      go_wp2_with (go_at_call 32;refine (KO.out).mono ?_;rintro e w3 ⟨⟨v3,rfl,ho3⟩,hb3⟩;obtain ⟨a3,c3,rfl,-,-,-⟩ := id (ho3.read RFact.steady).form;have HB3 := Lib.hid (HBW.out.trans (hb3.mono (Below.size HBW.out)));have HO3 := Lib.hid ho3;clear hb3 ho3)
      go_ret2
      exact facts_ok HE.out HB3.out ((HO3.out.lower (Below.size HBW.out)).moreS RFact.steady fun b hb _ => Nat.le_trans (Below.size HBW.out) hb)
end Go.Proofs.YtiiicochdidolaaGreat
namespace Go.Proofs.YtiiicochdidolaaGreat
theorem fitAll_append : ∀ (l k : List PAtom) (m : Known),fitAll m (l ++ k) = (fitAll m l && fitAll (learnAll m l) k)
  | [],k,m => by simp [fitAll,learnAll]
  | a :: l,k,m => by rw [List.cons_append,fitAll,fitAll,learnAll,fitAll_append l k,Bool.and_assoc]
theorem wrongFrom_iff : ∀ (p : List PRule) (m : Known) (i : Int),(wrongFrom m i p).1 = 0 ↔ (∀ r ∈ p,ruleBad r = 0) ∧ fitAll m (atomsOf p) = true
  | [],m,i => by simp [wrongFrom,atomsOf,fitAll]
  | r :: p,m,i => by
    have ha : atomsOf (r :: p) = (r.head :: r.body) ++ atomsOf p := by simp [atomsOf]
    rw [ha,fitAll_append,wrongFrom]
    by_cases h1 : ruleBad r = 0
    · rw [if_neg (by simpa using h1)]
      by_cases h2 : fitAll m (r.head :: r.body) = true
      · rw [if_pos h2,wrongFrom_iff p,h2,Bool.true_and]
        simp [h1]
      · rw [if_neg h2]
        simp only [Bool.not_eq_true] at h2
        rw [h2]
        simp
    · rw [if_pos h1]
      simp [h1]
theorem fits_learn {m : Known} {a b : PAtom} (h : fits m a = true) : fits (learn m a) b = true ↔ fits m b = true ∧ (a.name = b.name → a.terms.length = b.terms.length) := by
  unfold learn
  cases hm : m a.name with
  | some n =>
    rw [if_pos (by simp)]
    refine ⟨fun hb => ⟨hb,fun e => ?_⟩,fun hb => hb.1⟩
    unfold fits at h hb
    rw [hm] at h
    rw [← e,hm] at hb
    simp at h hb
    omega
  | none =>
    rw [if_neg (by simp)]
    unfold fits
    by_cases e : b.name = a.name
    · dsimp only
      rw [if_pos e,e,hm]
      simp only [true_and,forall_const,beq_iff_eq]
      omega
    · dsimp only
      rw [if_neg e]
      simp [Ne.symm e]
theorem fitAll_iff : ∀ (l : List PAtom) (m : Known),fitAll m l = true ↔ (∀ a ∈ l,fits m a = true) ∧ ∀ a ∈ l,∀ b ∈ l,a.name = b.name → a.terms.length = b.terms.length
  | [],m => by simp [fitAll]
  | a :: l,m => by
    rw [fitAll,Bool.and_eq_true,fitAll_iff l]
    constructor
    · rintro ⟨h1,h2,h3⟩
      have h4 := fun b hb => (fits_learn h1).1 (h2 b hb)
      refine ⟨fun b hb => ?_,fun b hb c hc e => ?_⟩
      · rcases List.mem_cons.1 hb with rfl | hb
        · exact h1
        · exact (h4 b hb).1
      · rcases List.mem_cons.1 hb with hb | hb <;> rcases List.mem_cons.1 hc with hc | hc
        · rw [hb,hc]
        · rw [hb] at e ⊢;exact (h4 c hc).2 e
        · rw [hc] at e ⊢;exact ((h4 b hb).2 e.symm).symm
        · exact h3 b hb c hc e
    · rintro ⟨h1,h2⟩
      have ha := h1 a (by simp)
      exact ⟨ha,fun b hb => (fits_learn ha).2 ⟨h1 b (by simp [hb]),fun e => h2 a (by simp) b (by simp [hb]) e⟩,fun b hb c hc e => h2 b (by simp [hb]) c (by simp [hc]) e⟩
def Arity (p : List PRule) : Prop := ∀ a ∈ atomsOf p,∀ b ∈ atomsOf p,a.name = b.name → a.terms.length = b.terms.length
theorem wrongP_iff {p : List PRule} : (wrongP p).1 = 0 ↔ p.length ≤ 16 ∧ (∀ r ∈ p,ruleBad r = 0) ∧ Arity p := by
  unfold wrongP
  by_cases h : 16 < p.length
  · rw [if_pos h]
    constructor
    · intro h1;exact absurd h1 (by decide)
    · rintro ⟨h1,-⟩;omega
  · rw [if_neg h,wrongFrom_iff,fitAll_iff]
    exact ⟨fun h1 => ⟨by omega,h1.1,h1.2.2⟩,fun h1 => ⟨h1.2.1,fun a _ => by simp [fits],h1.2.2⟩⟩
theorem arityF_fold : ∀ (l : List PAtom) (m : Str → Option Int) (t : Str),((∀ a ∈ l,a.name ≠ t) → l.foldl arityF m t = m t) ∧ ((∃ a ∈ l,a.name = t) → ∃ a ∈ l,a.name = t ∧ l.foldl arityF m t = some (a.terms.length : Int))
  | [],m,t => ⟨fun _ => rfl,fun ⟨a,ha,_⟩ => by simp at ha⟩
  | b :: l,m,t => by
    obtain ⟨h1,h2⟩ := arityF_fold l (arityF m b) t
    rw [List.foldl_cons]
    refine ⟨fun h => ?_,fun h => ?_⟩
    · rw [h1 fun a ha => h a (by simp [ha])]
      have := h b (by simp)
      unfold arityF
      rw [if_neg (fun e => this e.symm)]
    · by_cases hl : ∃ a ∈ l,a.name = t
      · obtain ⟨a,ha,e,hf⟩ := h2 hl
        exact ⟨a,by simp [ha],e,hf⟩
      · have hl' : ∀ a ∈ l,a.name ≠ t := fun a ha e => hl ⟨a,ha,e⟩
        obtain ⟨a,ha,e⟩ := h
        rcases List.mem_cons.1 ha with rfl | ha
        · refine ⟨a,by simp,e,?_⟩
          rw [h1 hl']
          unfold arityF
          rw [if_pos e.symm]
        · exact absurd e (hl' a ha)
theorem misfit_iff {p : List PRule} (h : Arity p) (f : PFact) : misfit p f = true ↔ ∃ a ∈ atomsOf p,a.name = f.name ∧ a.terms.length ≠ f.args.length := by
  unfold misfit arityP
  obtain ⟨h1,h2⟩ := arityF_fold (atomsOf p) (fun _ => none) f.name
  by_cases hx : ∃ a ∈ atomsOf p,a.name = f.name
  · obtain ⟨a,ha,e,hf⟩ := h2 hx
    rw [hf]
    constructor
    · intro hk
      exact ⟨a,ha,e,fun e2 => by simp [e2] at hk⟩
    · rintro ⟨b,hb,e3,hk⟩
      have := h a ha b hb (e.trans e3.symm)
      simp;omega
  · rw [h1 fun a ha e => hx ⟨a,ha,e⟩]
    constructor
    · intro hk;cases hk
    · rintro ⟨b,hb,e3,-⟩
      exact absurd ⟨b,hb,e3⟩ hx
theorem factsBad_iff {p : List PRule} {l : List PFact} : (factsBad p l).1 = 0 ↔ (setF l).1 = 0 ∧ ∀ f ∈ l,misfit p f = false := by
  unfold factsBad
  by_cases h1 : (setF l).1 = 0
  · rw [if_neg (by simpa using h1)]
    cases hf : l.findIdx? (misfit p) with
    | none =>
      rw [List.findIdx?_eq_none_iff] at hf
      exact ⟨fun _ => ⟨h1,fun f hm => by simpa using hf f hm⟩,fun _ => rfl⟩
    | some i =>
      constructor
      · intro h;exact absurd h (by simp)
      · rintro ⟨-,h⟩
        obtain ⟨hlt,h2,-⟩ := List.findIdx?_eq_some_iff_getElem.1 hf
        rw [h _ (List.getElem_mem hlt)] at h2
        cases h2
  · rw [if_pos h1]
    exact ⟨fun h => absurd h h1,fun h => absurd h.1 h1⟩
theorem head_mem {p : List PRule} {r : PRule} (h : r ∈ p) : r.head ∈ atomsOf p := List.mem_flatMap.2 ⟨r,h,by simp⟩
theorem fillP_len {a : PAtom} {m : Binds} {f : PFact} (h : fillP a m = some f) : f.args.length = a.terms.length := by
  have := fillArgs_len (fillP_name h).2;omega
theorem derives_fit {p : List PRule} (h : Arity p) {r : PRule} (hr : r ∈ p) {O : List PFact} {x : PFact} (hd : Derives r O x) : misfit p x = false := by
  obtain ⟨m,-,hf⟩ := hd
  have h1 := fillP_len hf
  have h2 := (fillP_name hf).1
  cases hm : misfit p x
  · rfl
  · obtain ⟨a,ha,e,hk⟩ := (misfit_iff h x).1 hm
    have := h a ha _ (head_mem hr) (e.trans h2.symm)
    omega
theorem count_is (st : List Int) : st = [] ∧ countP st = 0 ∨ ∃ x ∈ st,countP st = x + 1 := by
  cases st with
  | nil => exact .inl ⟨rfl,rfl⟩
  | cons y l =>
    refine .inr ?_
    have : ∀ (l : List Int) (x : Int),l.foldl max x = x ∨ l.foldl max x ∈ l := by
      intro l
      induction l with
      | nil => intro x;exact .inl rfl
      | cons z l ih =>
        intro x
        rw [List.foldl_cons]
        rcases ih (max x z) with h | h
        · rw [h]
          by_cases hx : x ≤ z
          · exact .inr (by rw [Int.max_eq_right hx];simp)
          · exact .inl (Int.max_eq_left (by omega))
        · exact .inr (by simp [h])
    rcases this l y with h | h
    · exact ⟨y,by simp,by show l.foldl max y + 1 = _;rw [h]⟩
    · exact ⟨_,List.mem_cons_of_mem _ h,rfl⟩
end Go.Proofs.YtiiicochdidolaaGreat
