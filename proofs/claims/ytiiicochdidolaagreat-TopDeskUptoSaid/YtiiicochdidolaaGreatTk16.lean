/-
  THE TEXTS RoundP, RoundQ, TopP, TopW, RoundS, RoundT, one behind the other.
-/
import Derived.Test.YtiiicochdidolaaGreatTk15
import Derived.Laws.BytesArg
namespace Go.Proofs.YtiiicochdidolaaGreat
structure PRun where
  known : List PFact
  new : List PFact
  stratum : Int
  rounds : Int
  done : Bool
  deriving DecidableEq
def zeroRun : PRun := ⟨[],[],0,0,false⟩
def rangeBad (r : PRun) (n : Int) : Bool := decide (r.rounds < 0) || decide (1000 < r.rounds) || decide (r.stratum < 0) || decide (n < r.stratum) || (r.done != (r.stratum == n))
def runBad (st : List Int) (q : Int) (p : List PRule) (r : PRun) : Int :=
  if q ≠ 0 then q else if (factsBad p r.known).1 ≠ 0 then (factsBad p r.known).1 else if (setF r.new).1 ≠ 0 then (setF r.new).1 else if rangeBad r (countP st) then 3 else if lessF r.new r.known ≠ [] then 8 else 0
def beginP (st : List Int) (q : Int) (p : List PRule) (l : List PFact) : PRun × Int :=
  if q ≠ 0 then (zeroRun,q) else if (factsBad p l).1 ≠ 0 then (zeroRun,(factsBad p l).1) else (⟨l,l,0,0,countP st == 0⟩,0)
def fillAll (h : PAtom) (ls : List Binds) : List PFact := ls.filterMap fun b => fillP h b
def newP (x : PRule) (known new : List PFact) : Nat → List PAtom → List PFact → Bool → List PFact × Int
  | _,[],out,sm => if sm then (out,0) else headsP x known
  | i,a :: b,out,sm => if a.neg then newP x known new (i + 1) b out sm
    else if (withP x.body known i new).2 ≠ 0 then ([],(withP x.body known i new).2) else newP x known new (i + 1) b (out ++ fillAll x.head (withP x.body known i new).1) true
def newHeads (x : PRule) (known new : List PFact) : List PFact × Int := newP x known new 0 x.body [] false
def makeP (s : Int) (known new : List PFact) : List (PRule × Int) → List PFact → List PFact × Int
  | [],made => (made,0)
  | (r,t) :: ps,made => if t ≠ s then makeP s known new ps made else if (newHeads r known new).2 ≠ 0 then ([],(newHeads r known new).2) else makeP s known new ps (made ++ (newHeads r known new).1)
def nextRun (n : Int) (r : PRun) (made : List PFact) : PRun :=
  if lessF (ofF made) r.known = [] then ⟨joinF r.known (lessF (ofF made) r.known),joinF r.known (lessF (ofF made) r.known),r.stratum + 1,r.rounds + 1,r.stratum + 1 == n⟩
  else ⟨joinF r.known (lessF (ofF made) r.known),lessF (ofF made) r.known,r.stratum,r.rounds + 1,false⟩
def goodStep (st : List Int) (p : List PRule) (r : PRun) : PRun × Int :=
  if r.done then (r,0) else if r.rounds = 1000 then (zeroRun,5)
  else if (makeP r.stratum r.known r.new (p.zip st) []).2 ≠ 0 then (zeroRun,(makeP r.stratum r.known r.new (p.zip st) []).2)
  else if 200 < (joinF r.known (lessF (ofF (makeP r.stratum r.known r.new (p.zip st) []).1) r.known)).length then (zeroRun,5)
  else (nextRun (countP st) r (makeP r.stratum r.known r.new (p.zip st) []).1,0)
def stepRun (st : List Int) (q : Int) (p : List PRule) (r : PRun) : PRun × Int := if runBad st q p r ≠ 0 then (zeroRun,runBad st q p r) else goodStep st p r
def iterP (st : List Int) (q : Int) (p : List PRule) : Nat → PRun → PRun × Int
  | 0,r => (r,0)
  | k + 1,r => if r.done then (r,0) else if (stepRun st q p r).2 ≠ 0 then (zeroRun,(stepRun st q p r).2) else iterP st q p k (stepRun st q p r).1
def stepsRun (st : List Int) (q : Int) (p : List PRule) (r : PRun) (n : Int) : PRun × Int :=
  if runBad st q p r ≠ 0 then (zeroRun,runBad st q p r) else if n < 0 ∨ 1000 < n then (zeroRun,3) else iterP st q p n.toNat r
def allRun (st : List Int) (q : Int) (p : List PRule) (l : List PFact) : List PFact × Int :=
  if (beginP st q p l).2 ≠ 0 then ([],(beginP st q p l).2) else if (stepsRun st q p (beginP st q p l).1 1000).2 ≠ 0 then ([],(stepsRun st q p (beginP st q p l).1 1000).2) else ((stepsRun st q p (beginP st q p l).1 1000).1.known,0)
theorem run_bad1 {st : List Int} {q : Int} {p : List PRule} {r : PRun} (h : q ≠ 0) : runBad st q p r = q := by unfold runBad;rw [if_pos h]
theorem run_bad2 {st : List Int} {p : List PRule} {r : PRun} (h : (factsBad p r.known).1 ≠ 0) : runBad st 0 p r = (factsBad p r.known).1 := by unfold runBad;rw [if_neg (by simp),if_pos h]
theorem run_bad3 {st : List Int} {p : List PRule} {r : PRun} (h : (factsBad p r.known).1 = 0) (h2 : (setF r.new).1 ≠ 0) : runBad st 0 p r = (setF r.new).1 := by unfold runBad;rw [if_neg (by simp),if_neg (by simpa using h),if_pos h2]
theorem run_bad4 {st : List Int} {p : List PRule} {r : PRun} (h : (factsBad p r.known).1 = 0) (h2 : (setF r.new).1 = 0) : runBad st 0 p r = if rangeBad r (countP st) then 3 else if lessF r.new r.known ≠ [] then 8 else 0 := by
  unfold runBad;rw [if_neg (by simp),if_neg (by simpa using h),if_neg (by simpa using h2)]
structure RunOk (st : List Int) (p : List PRule) (r : PRun) : Prop where
  known : Good r.known
  fit : (factsBad p r.known).1 = 0
  new : Good r.new
  r0 : 0 ≤ r.rounds
  r1 : r.rounds ≤ 1000
  s0 : 0 ≤ r.stratum
  s1 : r.stratum ≤ countP st
  done : r.done = (r.stratum == countP st)
  sub : ∀ x ∈ r.new,x ∈ r.known
theorem rangeBad_iff {r : PRun} {n : Int} : rangeBad r n = false ↔ 0 ≤ r.rounds ∧ r.rounds ≤ 1000 ∧ 0 ≤ r.stratum ∧ r.stratum ≤ n ∧ r.done = (r.stratum == n) := by
  unfold rangeBad
  simp only [Bool.or_eq_false_iff,decide_eq_false_iff_not,bne_eq_false_iff_eq]
  constructor
  · rintro ⟨⟨⟨⟨h1,h2⟩,h3⟩,h4⟩,h5⟩;exact ⟨by omega,by omega,by omega,by omega,h5⟩
  · rintro ⟨h1,h2,h3,h4,h5⟩;exact ⟨⟨⟨⟨by omega,by omega⟩,by omega⟩,by omega⟩,h5⟩
theorem lessF_nil_iff {l m : List PFact} : lessF l m = [] ↔ ∀ x ∈ l,x ∈ m := by
  unfold lessF
  rw [List.filter_eq_nil_iff]
  constructor
  · intro h x hx
    have := h x hx
    simp only [Bool.not_eq_true',Bool.not_eq_false] at this
    exact (memF_iff x m).1 this
  · intro h x hx
    rw [(memF_iff x m).2 (h x hx)];decide
theorem runBad_zero {st : List Int} {q : Int} {p : List PRule} {r : PRun} : runBad st q p r = 0 ↔ q = 0 ∧ RunOk st p r := by
  by_cases hq : q = 0
  case neg => rw [run_bad1 hq];exact ⟨fun h => absurd h hq,fun h => absurd h.1 hq⟩
  subst hq
  by_cases hf : (factsBad p r.known).1 = 0
  case neg => rw [run_bad2 hf];exact ⟨fun h => absurd h hf,fun h => absurd h.2.fit hf⟩
  by_cases hs : (setF r.new).1 = 0
  case neg => rw [run_bad3 hf hs];exact ⟨fun h => absurd h hs,fun h => absurd (by rw [h.2.new.set]) hs⟩
  rw [run_bad4 hf hs]
  cases hr : rangeBad r (countP st)
  · obtain ⟨h1,h2,h3,h4,h5⟩ := rangeBad_iff.1 hr
    by_cases hl : lessF r.new r.known = []
    · rw [if_neg (by simp),if_neg (by simpa using hl)]
      exact ⟨fun _ => ⟨rfl,good_of (factsBad_set hf),hf,good_of hs,h1,h2,h3,h4,h5,lessF_nil_iff.1 hl⟩,fun _ => rfl⟩
    · rw [if_neg (by simp),if_pos hl]
      exact ⟨fun h => absurd h (by decide),fun h => absurd (lessF_nil_iff.2 h.2.sub) hl⟩
  · rw [if_pos rfl]
    refine ⟨fun h => absurd h (by decide),fun h => ?_⟩
    have := rangeBad_iff.2 ⟨h.2.r0,h.2.r1,h.2.s0,h.2.s1,h.2.done⟩
    rw [hr] at this;cases this
end Go.Proofs.YtiiicochdidolaaGreat
namespace Go.Proofs.YtiiicochdidolaaGreat
def Makes (r : PRule) (known new : List PFact) (x : PFact) : Prop :=
  (∃ (i : Nat) (a : PAtom) (m : Binds),r.body[i]? = some a ∧ a.neg = false ∧ Told (pickP known new (i : Int)) r.body m ∧ fillP r.head m = some x) ∨ ((∀ a ∈ r.body,a.neg = true) ∧ Derives r known x)
theorem with_much {b : List PAtom} {known new : List PFact} {i : Int} (hb : bodyBad b = 0) (hk : (setF known).1 = 0) (hn : (setF new).1 = 0) (h : (withP b known i new).2 ≠ 0) : (withP b known i new).2 = 4 := by
  unfold withP at *
  rw [if_neg (by simpa using hb),if_neg (by simpa using hk),if_neg (by simpa using hn)] at *
  cases hg : goP (pickP known new i) 0 [[]] b with
  | none => rfl
  | some ls => rw [hg] at h;exact absurd rfl h
theorem newP_cases {x : PRule} {known new : List PFact} (hb : bodyBad x.body = 0) (hk : (setF known).1 = 0) (hn : (setF new).1 = 0) : ∀ (b : List PAtom) (i : Nat) (out : List PFact) (sm : Bool),x.body.drop i = b →
    (newP x known new i b out sm).2 = 4 ∨
    (newP x known new i b out sm).2 = 0 ∧ (sm = true ∨ ∃ a ∈ b,a.neg = false) ∧ (∀ f,f ∈ (newP x known new i b out sm).1 ↔ f ∈ out ∨ ∃ (j : Nat) (a : PAtom) (m : Binds),i ≤ j ∧ x.body[j]? = some a ∧ a.neg = false ∧ Told (pickP known new (j : Int)) x.body m ∧ fillP x.head m = some f) ∨
    sm = false ∧ (∀ a ∈ b,a.neg = true) ∧ newP x known new i b out sm = headsP x known
  | [],i,out,sm,hd => by
    rw [newP]
    cases sm
    · exact .inr (.inr ⟨rfl,fun a ha => by simp at ha,rfl⟩)
    · refine .inr (.inl ⟨rfl,.inl rfl,fun f => ?_⟩)
      refine ⟨fun h => .inl h,fun h => ?_⟩
      rcases h with h | ⟨j,a,m,hj,ha,-⟩
      · exact h
      · have hlen : x.body.length ≤ i := List.drop_eq_nil_iff.1 hd
        have := (List.getElem?_eq_some_iff.1 ha).1
        omega
  | a :: b,i,out,sm,hd => by
    have hai : x.body[i]? = some a := by
      have := congrArg (fun l => l[0]?) hd
      simpa using this
    have hd' : x.body.drop (i + 1) = b := by
      have := congrArg (fun l => l.drop 1) hd
      simpa [List.drop_drop] using this
    rw [newP]
    cases hneg : a.neg
    case true =>
      rw [if_pos rfl]
      rcases newP_cases hb hk hn b (i + 1) out sm hd' with h | ⟨h0,h1,h2⟩ | ⟨h1,h2,h3⟩
      · exact .inl h
      · refine .inr (.inl ⟨h0,?_,fun f => ?_⟩)
        · rcases h1 with h1 | ⟨c,hc,hc'⟩
          · exact .inl h1
          · exact .inr ⟨c,List.mem_cons_of_mem _ hc,hc'⟩
        · rw [h2]
          refine or_congr_right ⟨fun ⟨j,c,m,hj,hr⟩ => ⟨j,c,m,by omega,hr⟩,fun ⟨j,c,m,hj,hc,hcn,hr⟩ => ⟨j,c,m,?_,hc,hcn,hr⟩⟩
          by_cases e : j = i
          · subst e;rw [hai] at hc;injection hc with hc;subst hc;rw [hneg] at hcn;cases hcn
          · omega
      · exact .inr (.inr ⟨h1,fun c hc => by
          rcases List.mem_cons.1 hc with rfl | hc
          · exact hneg
          · exact h2 c hc,h3⟩)
    case false =>
      rw [if_neg (by simp)]
      by_cases he : (withP x.body known (i : Int) new).2 = 0
      case neg => rw [if_pos he];exact .inl (with_much hb hk hn he)
      rw [if_neg (by simpa using he)]
      have hT : ∀ m,m ∈ (withP x.body known (i : Int) new).1 ↔ Told (pickP known new (i : Int)) x.body m := by
        rcases withP_cases x.body known (i : Int) new with ⟨h,-⟩ | ⟨-,-,-,-,-,h⟩
        · exact absurd he h
        · exact h
      rcases newP_cases hb hk hn b (i + 1) (out ++ fillAll x.head (withP x.body known (i : Int) new).1) true hd' with h | ⟨h0,h1,h2⟩ | ⟨h1,-⟩
      · exact .inl h
      · refine .inr (.inl ⟨h0,.inr ⟨a,by simp,hneg⟩,fun f => ?_⟩)
        rw [h2,List.mem_append]
        constructor
        · rintro ((h | h) | ⟨j,c,m,hj,hr⟩)
          · exact .inl h
          · obtain ⟨m,hm,hf⟩ := List.mem_filterMap.1 h
            exact .inr ⟨i,a,m,Nat.le_refl _,hai,hneg,(hT m).1 hm,hf⟩
          · exact .inr ⟨j,c,m,by omega,hr⟩
        · rintro (h | ⟨j,c,m,hj,hc,hcn,ht,hf⟩)
          · exact .inl (.inl h)
          · by_cases e : j = i
            · subst e
              exact .inl (.inr (List.mem_filterMap.2 ⟨m,(hT m).2 ht,hf⟩))
            · exact .inr ⟨j,c,m,by omega,hc,hcn,ht,hf⟩
      · cases h1
theorem newHeads_cases {x : PRule} {known new : List PFact} (hb : bodyBad x.body = 0) (hk : (setF known).1 = 0) (hn : (setF new).1 = 0) :
    (newHeads x known new).2 = 4 ∨ (newHeads x known new).2 = 0 ∧ ∀ f,f ∈ (newHeads x known new).1 ↔ Makes x known new f := by
  unfold newHeads
  rcases newP_cases hb hk hn x.body 0 [] false (by simp) with h | ⟨h0,h1,h2⟩ | ⟨-,h2,h3⟩
  · exact .inl h
  · refine .inr ⟨h0,fun f => ?_⟩
    rw [h2]
    constructor
    · rintro (h | ⟨j,c,m,-,hr⟩)
      · simp at h
      · exact .inl ⟨j,c,m,hr⟩
    · rintro (⟨j,c,m,hr⟩ | ⟨h,-⟩)
      · exact .inr ⟨j,c,m,Nat.zero_le _,hr⟩
      · rcases h1 with h1 | ⟨a,ha,han⟩
        · cases h1
        · rw [h a ha] at han;cases han
  · rw [h3]
    by_cases he : (headsP x known).2 = 0
    · refine .inr ⟨he,fun f => ?_⟩
      rw [mem_heads he]
      constructor
      · exact fun h => .inr ⟨h2,h⟩
      · rintro (⟨j,c,m,hc,hcn,-⟩ | ⟨-,h⟩)
        · rw [h2 c (List.mem_of_getElem? hc)] at hcn;cases hcn
        · exact h
    · exact .inl (heads_much hb hk he)
def MakesS (ps : List (PRule × Int)) (s : Int) (known new : List PFact) (x : PFact) : Prop := ∃ r t,(r,t) ∈ ps ∧ t = s ∧ Makes r known new x
theorem makeP_cases {s : Int} {known new : List PFact} (hk : (setF known).1 = 0) (hn : (setF new).1 = 0) : ∀ {ps : List (PRule × Int)} {made : List PFact},(∀ r t,(r,t) ∈ ps → bodyBad r.body = 0) →
    (makeP s known new ps made).2 = 4 ∨ (makeP s known new ps made).2 = 0 ∧ ∀ f,f ∈ (makeP s known new ps made).1 ↔ f ∈ made ∨ MakesS ps s known new f
  | [],made,_ => .inr ⟨rfl,fun f => ⟨.inl,fun h => by
      rcases h with h | ⟨r,t,h,-⟩
      · exact h
      · simp at h⟩⟩
  | (r,t) :: ps,made,hb => by
    have hb' : ∀ r t,(r,t) ∈ ps → bodyBad r.body = 0 := fun r t h => hb r t (List.mem_cons_of_mem _ h)
    rw [makeP]
    by_cases ht : t = s
    case neg =>
      rw [if_pos ht]
      rcases makeP_cases (made := made) hk hn hb' with h | ⟨h0,h1⟩
      · exact .inl h
      · refine .inr ⟨h0,fun f => ?_⟩
        rw [h1]
        refine or_congr_right ⟨fun ⟨r',t',hm,hr⟩ => ⟨r',t',List.mem_cons_of_mem _ hm,hr⟩,fun ⟨r',t',hm,e,hr⟩ => ?_⟩
        rcases List.mem_cons.1 hm with hm | hm
        · injection hm with _ h2;subst h2;exact absurd e ht
        · exact ⟨r',t',hm,e,hr⟩
    rw [if_neg (by simpa using ht)]
    rcases newHeads_cases (hb r t (by simp)) hk hn with h | ⟨h0,h1⟩
    · rw [if_pos (by rw [h];decide)];exact .inl h
    rw [if_neg (by simpa using h0)]
    rcases makeP_cases (made := made ++ (newHeads r known new).1) hk hn hb' with h | ⟨g0,g1⟩
    · exact .inl h
    · refine .inr ⟨g0,fun f => ?_⟩
      rw [g1,List.mem_append,h1]
      constructor
      · rintro ((h | h) | ⟨r',t',hm,hr⟩)
        · exact .inl h
        · exact .inr ⟨r,t,by simp,ht,h⟩
        · exact .inr ⟨r',t',List.mem_cons_of_mem _ hm,hr⟩
      · rintro (h | ⟨r',t',hm,e,hr⟩)
        · exact .inl (.inl h)
        · rcases List.mem_cons.1 hm with hm | hm
          · injection hm with h2 _;subst h2;exact .inl (.inr hr)
          · exact .inr ⟨r',t',hm,e,hr⟩
theorem Makes.derives {r : PRule} {known new : List PFact} {x : PFact} (hs : ∀ y ∈ new,y ∈ known) (h : Makes r known new x) : Derives r known x := by
  rcases h with ⟨i,a,m,ha,hneg,⟨h1,h2,h3,h4⟩,hf⟩ | ⟨-,h⟩
  · refine ⟨m,⟨h1,h2,h3,fun j c hc => ?_⟩,hf⟩
    obtain ⟨f,k1,k2⟩ := h4 j c hc
    refine ⟨f,k1,?_⟩
    unfold pickP at k2
    by_cases e : (j : Int) = (i : Int)
    · rw [if_pos e] at k2
      have e' : j = i := by omega
      subst e'
      rw [ha] at hc;injection hc with hc;subst hc
      rw [hneg] at k2 ⊢
      exact (memF_iff f known).2 (hs f ((memF_iff f new).1 k2))
    · rw [if_neg e] at k2;exact k2
  · exact h
theorem in_lessF (l m : List PFact) (x : PFact) : x ∈ lessF l m ↔ x ∈ l ∧ x ∉ m := by
  unfold lessF
  rw [List.mem_filter]
  refine and_congr_right fun _ => ?_
  rw [← memF_iff x m]
  cases memF x m <;> simp
theorem lessF_up {l m : List PFact} (h : Rising l) : Rising (lessF l m) := List.Pairwise.filter _ h
theorem joinF_nil {l : List PFact} (h : Rising l) : joinF l [] = l := rising_ext (ofF_rising _) h fun x => by rw [mem_joinF];simp
structure Stepped (ps : List (PRule × Int)) (n : Int) (r r' : PRun) : Prop where
  mem : ∀ x,x ∈ r'.known ↔ x ∈ r.known ∨ MakesS ps r.stratum r.known r.new x
  rise : Rising r'.known
  len : r'.known.length ≤ 200
  rnew : Rising r'.new
  rounds : r'.rounds = r.rounds + 1
  how : (r'.known = r.known ∧ r'.new = r.known ∧ r'.stratum = r.stratum + 1 ∧ r'.done = (r.stratum + 1 == n)) ∨
    (r'.stratum = r.stratum ∧ r'.done = false ∧ (∃ x,x ∈ r'.new) ∧ ∀ x,x ∈ r'.new ↔ x ∈ r'.known ∧ x ∉ r.known)
structure Ruled (st : List Int) (p : List PRule) : Prop where
  rules : ∀ r ∈ p,ruleBad r = 0
  arity : Arity p
theorem Ruled.body {st : List Int} {p : List PRule} (h : Ruled st p) {r : PRule} {t : Int} (hm : (r,t) ∈ p.zip st) : bodyBad r.body = 0 := (ruleBad_zero (h.rules r (List.of_mem_zip hm).1)).2.2.1
theorem step_cases {st : List Int} {p : List PRule} (hR : Ruled st p) {r : PRun} (h : RunOk st p r) (hd : r.done = false) :
    goodStep st p r = (zeroRun,4) ∨ (goodStep st p r = (zeroRun,5) ∧ (r.rounds = 1000 ∨ ∃ l,Rising l ∧ 200 < l.length ∧ ∀ x,x ∈ l ↔ x ∈ r.known ∨ MakesS (p.zip st) r.stratum r.known r.new x)) ∨
    ((goodStep st p r).2 = 0 ∧ r.rounds ≠ 1000 ∧ Stepped (p.zip st) (countP st) r (goodStep st p r).1) := by
  have hk : (setF r.known).1 = 0 := by rw [h.known.set]
  have hn : (setF r.new).1 = 0 := by rw [h.new.set]
  unfold goodStep
  rw [hd,if_neg (by decide)]
  by_cases h1 : r.rounds = 1000
  · rw [if_pos h1];exact .inr (.inl ⟨rfl,.inl h1⟩)
  rw [if_neg h1]
  rcases makeP_cases (s := r.stratum) (made := []) (ps := p.zip st) hk hn (fun r t hm => hR.body hm) with h2 | ⟨h2,h3⟩
  · rw [if_pos (by rw [h2];decide),h2];exact .inl rfl
  rw [if_neg (by simpa using h2)]
  generalize (makeP r.stratum r.known r.new (p.zip st) []).1 = made at h3
  have hM : ∀ x,x ∈ joinF r.known (lessF (ofF made) r.known) ↔ x ∈ r.known ∨ MakesS (p.zip st) r.stratum r.known r.new x := fun x => by
    rw [mem_joinF,in_lessF,mem_ofF,h3]
    constructor
    · rintro (h | ⟨h | h,-⟩)
      · exact .inl h
      · simp at h
      · exact .inr h
    · rintro (h | h)
      · exact .inl h
      · by_cases hx : x ∈ r.known
        · exact .inl hx
        · exact .inr ⟨.inr h,hx⟩
  by_cases h4 : 200 < (joinF r.known (lessF (ofF made) r.known)).length
  · rw [if_pos h4];exact .inr (.inl ⟨rfl,.inr ⟨_,ofF_rising _,h4,hM⟩⟩)
  rw [if_neg h4]
  refine .inr (.inr ⟨rfl,h1,?_⟩)
  show Stepped _ _ _ (nextRun (countP st) r made)
  unfold nextRun
  by_cases h5 : lessF (ofF made) r.known = []
  · rw [if_pos h5]
    have e : joinF r.known (lessF (ofF made) r.known) = r.known := by rw [h5,joinF_nil h.known.rise]
    rw [e] at hM h4 ⊢
    exact ⟨hM,h.known.rise,by show r.known.length ≤ 200;omega,h.known.rise,rfl,.inl ⟨rfl,rfl,rfl,rfl⟩⟩
  · rw [if_neg h5]
    refine ⟨hM,ofF_rising _,by show (joinF r.known (lessF (ofF made) r.known)).length ≤ 200;omega,lessF_up (ofF_rising _),rfl,.inr ⟨rfl,rfl,List.exists_mem_of_ne_nil _ h5,fun x => ?_⟩⟩
    show x ∈ lessF (ofF made) r.known ↔ x ∈ joinF r.known (lessF (ofF made) r.known) ∧ x ∉ r.known
    rw [mem_joinF,in_lessF]
    constructor
    · rintro ⟨a,b⟩;exact ⟨.inr ⟨a,b⟩,b⟩
    · rintro ⟨a | a,b⟩
      · exact absurd a b
      · exact a
theorem MakesS.derives {ps : List (PRule × Int)} {s : Int} {known new : List PFact} {x : PFact} (hs : ∀ y ∈ new,y ∈ known) (h : MakesS ps s known new x) : ∃ r t,(r,t) ∈ ps ∧ t = s ∧ Derives r known x := by
  obtain ⟨r,t,hm,e,h⟩ := h
  exact ⟨r,t,hm,e,h.derives hs⟩
theorem Stepped.sub {ps : List (PRule × Int)} {n : Int} {r r' : PRun} (h : Stepped ps n r r') : ∀ x ∈ r.known,x ∈ r'.known := fun x hx => (h.mem x).2 (.inl hx)
theorem Stepped.newsub {ps : List (PRule × Int)} {n : Int} {r r' : PRun} (h : Stepped ps n r r') : ∀ x ∈ r'.new,x ∈ r'.known := fun x hx => by
  rcases h.how with ⟨e1,e2,-⟩ | ⟨-,-,-,e⟩
  · rw [e2] at hx;rw [e1];exact hx
  · exact ((e x).1 hx).1
theorem Stepped.ok {st : List Int} {p : List PRule} (hR : Ruled st p) {r r' : PRun} (h : RunOk st p r) (hd : r.done = false) (h1 : r.rounds ≠ 1000) (hs : Stepped (p.zip st) (countP st) r r') : RunOk st p r' := by
  have hfine : ∀ x ∈ r'.known,wrongF x = 0 ∧ misfit p x = false := fun x hx => by
    rcases (hs.mem x).1 hx with hx | hx
    · exact ⟨h.known.fine x hx,(factsBad_iff.1 h.fit).2 x hx⟩
    · obtain ⟨r0,t,hm,-,hdv⟩ := hx.derives h.sub
      have hr0 := (List.of_mem_zip hm).1
      exact ⟨derives_good (hR.rules r0 hr0) (fun f hf => h.known.fine f hf) hdv,derives_fit hR.arity hr0 hdv⟩
  have hk : Good r'.known := ⟨hs.rise,hs.len,fun x hx => (hfine x hx).1⟩
  have hdn : (r.stratum == countP st) = false := by rw [← h.done];exact hd
  have hne : r.stratum ≠ countP st := by simpa using hdn
  have h0 := h.s0
  have hs1 := h.s1
  have hr0 := h.r0
  have hr1 := h.r1
  have e := hs.rounds
  refine ⟨hk,factsBad_iff.2 ⟨by rw [hk.set],fun x hx => (hfine x hx).2⟩,⟨hs.rnew,Nat.le_trans (rising_sub_le hs.rnew hs.newsub) hs.len,fun x hx => (hfine x (hs.newsub x hx)).1⟩,by omega,by omega,?_,?_,?_,hs.newsub⟩
  · rcases hs.how with ⟨-,-,e,-⟩ | ⟨e,-⟩ <;> omega
  · rcases hs.how with ⟨-,-,e,-⟩ | ⟨e,-⟩ <;> omega
  · rcases hs.how with ⟨-,-,e,e2⟩ | ⟨e,e2,-⟩
    · rw [e2,e]
    · rw [e2,e,hdn]
theorem step_good_eq {st : List Int} {p : List PRule} {r : PRun} (h : RunOk st p r) : stepRun st 0 p r = goodStep st p r := by
  unfold stepRun
  rw [if_neg (by rw [runBad_zero.2 ⟨rfl,h⟩];simp)]
theorem iter_still {st : List Int} {q : Int} {p : List PRule} {r : PRun} (h : r.done = true) : ∀ k,iterP st q p k r = (r,0)
  | 0 => rfl
  | k + 1 => by rw [iterP,if_pos h]
theorem iter_on {st : List Int} {q : Int} {p : List PRule} {r : PRun} (h : r.done = false) (k : Nat) : iterP st q p (k + 1) r = if (stepRun st q p r).2 ≠ 0 then (zeroRun,(stepRun st q p r).2) else iterP st q p k (stepRun st q p r).1 := by
  rw [iterP,if_neg (by rw [h];simp)]
theorem iter_add {st : List Int} {q : Int} {p : List PRule} : ∀ {n m : Nat} {r : PRun},(iterP st q p n r).2 = 0 → iterP st q p (n + m) r = iterP st q p m (iterP st q p n r).1
  | 0,m,r,_ => by rw [Nat.zero_add];rfl
  | n + 1,m,r,h => by
    cases hd : r.done
    · rw [show n + 1 + m = (n + m) + 1 by omega,iter_on hd (n + m)]
      rw [iter_on hd n] at h ⊢
      by_cases he : (stepRun st q p r).2 = 0
      · rw [if_neg (by simpa using he)] at h ⊢
        rw [if_neg (by simpa using he)]
        exact iter_add h
      · rw [if_pos he] at h;exact absurd h he
    · rw [iter_still hd,iter_still hd]
      exact (iter_still hd m).symm
theorem iter_right {st : List Int} {p : List PRule} (hR : Ruled st p) : ∀ {n : Nat} {r : PRun},RunOk st p r →
    (iterP st 0 p n r).2 = 4 ∨ (iterP st 0 p n r).2 = 5 ∨ (iterP st 0 p n r).2 = 0 ∧ RunOk st p (iterP st 0 p n r).1 ∧ ((iterP st 0 p n r).1.done = true ∨ n + r.known.length + r.stratum ≤ (iterP st 0 p n r).1.known.length + (iterP st 0 p n r).1.stratum)
  | 0,r,h => .inr (.inr ⟨rfl,h,.inr (by show ((0 : Nat) : Int) + _ + _ ≤ (r.known.length : Int) + r.stratum;omega)⟩)
  | n + 1,r,h => by
    cases hd : r.done
    case true => rw [iter_still hd];exact .inr (.inr ⟨rfl,h,.inl hd⟩)
    rw [iterP,if_neg (by rw [hd];simp),step_good_eq h]
    rcases step_cases hR h hd with h1 | ⟨h1,-⟩ | ⟨h1,h2,h3⟩
    · rw [h1];exact .inl rfl
    · rw [h1];exact .inr (.inl rfl)
    · rw [if_neg (by simpa using h1)]
      have hlen : (r.known.length : Int) + r.stratum + 1 ≤ (goodStep st p r).1.known.length + (goodStep st p r).1.stratum := by
        rcases h3.how with ⟨e,-,e2,-⟩ | ⟨e,-,⟨x,hx⟩,e2⟩
        · rw [e,e2];omega
        · rw [e]
          obtain ⟨a,b⟩ := (e2 x).1 hx
          have := nodup_le (l := x :: r.known) (m := (goodStep st p r).1.known) (List.nodup_cons.2 ⟨b,nodup_rising h.known.rise⟩) fun y hy => by
            rcases List.mem_cons.1 hy with rfl | hy
            · exact a
            · exact h3.sub y hy
          simp only [List.length_cons] at this
          omega
      rcases iter_right hR (n := n) (h3.ok hR h hd h2) with g | g | ⟨g1,g2,g3⟩
      · exact .inl g
      · exact .inr (.inl g)
      · refine .inr (.inr ⟨g1,g2,?_⟩)
        rcases g3 with g3 | g3
        · exact .inl g3
        · refine .inr ?_
          omega
theorem steps_good {st : List Int} {p : List PRule} {r : PRun} (h : RunOk st p r) {n : Int} (h0 : 0 ≤ n) (h1 : n ≤ 1000) : stepsRun st 0 p r n = iterP st 0 p n.toNat r := by
  unfold stepsRun
  rw [if_neg (by rw [runBad_zero.2 ⟨rfl,h⟩];simp),if_neg (by omega)]
theorem steps_end {st : List Int} {p : List PRule} (hR : Ruled st p) (hc : countP st ≤ 16) {r : PRun} (h : RunOk st p r) :
    (stepsRun st 0 p r 1000).2 = 4 ∨ (stepsRun st 0 p r 1000).2 = 5 ∨ (stepsRun st 0 p r 1000).2 = 0 ∧ RunOk st p (stepsRun st 0 p r 1000).1 ∧ (stepsRun st 0 p r 1000).1.done = true := by
  rw [steps_good h (by omega) (by omega)]
  rcases iter_right hR (n := (1000 : Int).toNat) h with g | g | ⟨g1,g2,g3⟩
  · exact .inl g
  · exact .inr (.inl g)
  · refine .inr (.inr ⟨g1,g2,?_⟩)
    rcases g3 with g3 | g3
    · exact g3
    · have k1 := g2.known.len
      have k2 := g2.s1
      have k3 := h.s0
      have k4 : (((1000 : Int).toNat : Nat) : Int) = 1000 := rfl
      rw [k4] at g3
      omega
theorem strata_count {p : List PRule} {st : List Int} {q : Int × Int} (hs : StrataIs p st q) (hq : q.1 = 0) : Ruled st p ∧ 0 ≤ countP st ∧ countP st ≤ 16 ∧ ∃ L,Least p L ∧ st = p.map (fun r => (L r.head.name : Int)) := by
  obtain ⟨h1,h2,L,hL,e⟩ := strata_zero hs hq
  obtain ⟨k1,-,k3⟩ := wrongP_iff.1 h2
  refine ⟨⟨h1,k3⟩,?_,?_,L,hL,e⟩
  · rcases count_is st with ⟨-,h⟩ | ⟨x,hx,h⟩
    · omega
    · rw [e] at hx
      obtain ⟨r,-,rfl⟩ := List.mem_map.1 hx
      omega
  · rcases count_is st with ⟨-,h⟩ | ⟨x,hx,h⟩
    · omega
    · rw [e] at hx
      obtain ⟨r,hr,rfl⟩ := List.mem_map.1 hx
      have := hL.bound (D := headsOf p) (fun x hx => hx) (s := r.head.name) (List.mem_map.2 ⟨r,hr,rfl⟩)
      rw [show (headsOf p).length = p.length from List.length_map ..] at this
      omega
theorem begin_ok {p : List PRule} {st : List Int} {q : Int × Int} (hs : StrataIs p st q) {l : List PFact} (h : (beginP st q.1 p l).2 = 0) :
    q.1 = 0 ∧ (factsBad p l).1 = 0 ∧ beginP st q.1 p l = (⟨l,l,0,0,countP st == 0⟩,0) ∧ RunOk st p (beginP st q.1 p l).1 := by
  by_cases h1 : q.1 = 0
  case neg => unfold beginP at h;rw [if_pos h1] at h;exact absurd h h1
  by_cases h2 : (factsBad p l).1 = 0
  case neg => unfold beginP at h;rw [if_neg (by simpa using h1),if_pos h2] at h;exact absurd h h2
  have e : beginP st q.1 p l = (⟨l,l,0,0,countP st == 0⟩,0) := by unfold beginP;rw [if_neg (by simpa using h1),if_neg (by simpa using h2)]
  have hg := good_of (factsBad_set h2)
  obtain ⟨-,c0,-⟩ := strata_count hs h1
  refine ⟨h1,h2,e,?_⟩
  rw [e]
  exact ⟨hg,h2,hg,by show (0 : Int) ≤ 0;omega,by show (0 : Int) ≤ 1000;omega,by show (0 : Int) ≤ 0;omega,c0,by show (countP st == 0) = ((0 : Int) == countP st);rw [Bool.beq_comm],fun x hx => hx⟩
end Go.Proofs.YtiiicochdidolaaGreat
namespace Go.Proofs.YtiiicochdidolaaGreat
def tn (k : Nat) : Str := ⟨#[116,UInt8.ofNat (97 + k)]⟩
def xroad : Str := ⟨#[114,111,97,100]⟩
def xway : Str := ⟨#[119,97,121]⟩
def xcut : Str := ⟨#[99,117,116]⟩
def xtown : Str := ⟨#[116,111,119,110]⟩
def roadsP : List PRule := [⟨⟨false,xway,[⟨true,xX⟩,⟨true,xY⟩]⟩,[⟨false,xroad,[⟨true,xX⟩,⟨true,xY⟩]⟩]⟩,
  ⟨⟨false,xway,[⟨true,xX⟩,⟨true,xZ⟩]⟩,[⟨false,xway,[⟨true,xX⟩,⟨true,xY⟩]⟩,⟨false,xroad,[⟨true,xY⟩,⟨true,xZ⟩]⟩]⟩,
  ⟨⟨false,xcut,[⟨true,xX⟩,⟨true,xY⟩]⟩,[⟨false,xtown,[⟨true,xX⟩]⟩,⟨false,xtown,[⟨true,xY⟩]⟩,⟨true,xway,[⟨true,xX⟩,⟨true,xY⟩]⟩]⟩]
theorem wrong_roads : wrongP roadsP = (0,0) := by decide +kernel
theorem small_roads : ∀ r ∈ roadsP,RuleSmall r := fun r hr => ruleSmall_of (List.all_eq_true.1 (show roadsP.all ruleSmallB = true by decide +kernel) r hr)
theorem names_roads : ∀ r ∈ roadsP,NameSmall r := fun r hr => nameSmall_of (List.all_eq_true.1 (show roadsP.all nameSmallB = true by decide +kernel) r hr)
theorem least_roads : Least roadsP (fun s => if s = xcut then 1 else 0) := by
  refine ⟨sol_of (fun s hs => ?_) (by decide +kernel),fun M hM s => ?_⟩
  · show (if s = xcut then 1 else 0) = 0
    rw [if_neg]
    rintro rfl
    exact hs (by decide +kernel)
  · show (if s = xcut then 1 else 0) ≤ M s
    split
    · rename_i e
      subst e
      have h := hM.up ⟨⟨false,xcut,[⟨true,xX⟩,⟨true,xY⟩]⟩,[⟨false,xtown,[⟨true,xX⟩]⟩,⟨false,xtown,[⟨true,xY⟩]⟩,⟨true,xway,[⟨true,xX⟩,⟨true,xY⟩]⟩]⟩ (by simp [roadsP]) ⟨true,xway,[⟨true,xX⟩,⟨true,xY⟩]⟩ (by simp)
      rw [show dl roadsP ⟨true,xway,[⟨true,xX⟩,⟨true,xY⟩]⟩ = 1 by decide +kernel] at h
      exact Nat.le_trans (Nat.le_add_left _ _) h
    · exact Nat.zero_le _
theorem strata_roads : StrataIs roadsP [0,0,1] (0,0) := .inr ⟨by rw [wrong_roads],.inl ⟨_,least_roads,by decide +kernel,rfl⟩⟩
def t7Facts : List PFact := [⟨xroad,[tn 0,tn 1]⟩,⟨xroad,[tn 1,tn 2]⟩]
def t7All : List PFact := [⟨xroad,[tn 0,tn 1]⟩,⟨xroad,[tn 1,tn 2]⟩,⟨xway,[tn 0,tn 1]⟩,⟨xway,[tn 0,tn 2]⟩,⟨xway,[tn 1,tn 2]⟩]
theorem naive_t7 : naiveP [0,0,1] 0 roadsP t7Facts = (t7All,0) := by decide +kernel
theorem mem_t7 : memF ⟨xway,[tn 0,tn 2]⟩ t7All = true := by decide +kernel
theorem rising_t7 : Rising t7All := by unfold Rising;decide +kernel
theorem args_t7 : ∀ x ∈ t7All,x.args.length ≤ 1048576 := fun x hx => of_decide_eq_true (List.all_eq_true.1 (show t7All.all (fun a => decide (a.args.length ≤ 1048576)) = true by decide +kernel) x hx)
theorem args_f7 : ∀ x ∈ t7Facts,x.args.length ≤ 1048576 := fun x hx => of_decide_eq_true (List.all_eq_true.1 (show t7Facts.all (fun a => decide (a.args.length ≤ 1048576)) = true by decide +kernel) x hx)
end Go.Proofs.YtiiicochdidolaaGreat
namespace Go.Proofs.YtiiicochdidolaaGreat
open Go.RowKit
theorem RdStrs.litS {S : Nat → Prop} {w : World} {b : Nat} {t : TypeId} {l : List Str} {n : Nat} (hn : l.length = n) (hm : n ≤ maxLen) (hS : S b) (h : Blk w b t (l.map Value.string).toArray) : RdStrs S w (.slice (some ⟨b,0,none⟩) n n) l := by
  subst hn
  refine ⟨_,_,rfl,Nat.le_refl _,hm,(fun h => by cases h),fun i x hx => ⟨b,0,[.string x],rfl,hS,h.lt,rfl,fun j u hu => ?_,rfl⟩⟩
  rcases j with _ | j
  · obtain rfl := Option.some.inj hu
    rw [h.cell]
    simp [hx]
  · simp at hu
set_option maxRecDepth 100000 in
set_option maxHeartbeats 4000000 in
theorem townCalls (k : Nat) (hk : k ≤ 8) (w : World) : Calls Tryz.prog 40 #[.int .i64 (k : Int)] w fun e w' => e = .returned (.string (tn k)) ∧ Below w.heap.size w w' := by
  have kc : ∀ z : Int,(convert 29 9 (.slice (some ⟨w.heap.size,0,none⟩) 1 1)).run Tryz.prog (w.alloc (.cells #[.int .u8 z] 5)) = .ok (.string (strOfNums [z])) (w.alloc (.cells #[.int .u8 z] 5)) := fun z =>
    run_convert_bytes_arg _ 29 5 Tryz.underlying29 Tryz.underlying5 w.heap.size 0 1 1 [z] rfl (fun i hi => by have h0 : i = 0 := (by omega);subst h0;rw [Nat.zero_add,new_at rfl];rfl) 9 Tryz.underlying9
  have hc : k = 0 ∨ k = 1 ∨ k = 2 ∨ k = 3 ∨ k = 4 ∨ k = 5 ∨ k = 6 ∨ k = 7 ∨ k = 8 := by omega
  rcases hc with rfl | rfl | rfl | rfl | rfl | rfl | rfl | rfl | rfl
  all_goals
    go_enter Tryz.func40,Tryz.ntmps40
    go_wp2
    go_ret
    exact ⟨rfl,(Below.refl _ _).alloc (Nat.le_refl _) _⟩
def TwoPost (nm : Str) (i j : Nat) (w : World) (e : Ending) (w' : World) : Prop :=
  ∃ b,e = .returned (.agg #[.string nm,.slice (some ⟨b,0,none⟩) 2 2]) ∧ w.heap.size ≤ b ∧ Blk w' b 9 #[.string (tn i),.string (tn j)] ∧ Below w.heap.size w w'
set_option maxRecDepth 100000 in
set_option maxHeartbeats 4000000 in
theorem roadCalls (i j : Nat) (hi : i ≤ 8) (hj : j ≤ 8) (w : World) : Calls Tryz.prog 18 #[.int .i64 (i : Int),.int .i64 (j : Int)] w (TwoPost xroad i j w) := by
  obtain ⟨W0,hW0⟩ : ∃ W0 : World,w.alloc (.cells #[.string ⟨#[]⟩,.slice none 0 0] 38) = W0 := ⟨_,rfl⟩
  have HB0 := Lib.hid (show Below w.heap.size w W0 by subst hW0;exact (Below.refl _ _).alloc (Nat.le_refl _) _)
  have HK0 := Lib.hid (show Blk W0 w.heap.size 38 #[.string ⟨#[]⟩,.slice none 0 0] by subst hW0;exact Blk.new w _ _)
  have T1 := Lib.hid True.intro
  go_enter Tryz.func18,Tryz.ntmps18
  go_wp2_with (first
    | (go_at_call 40;have hh := HK1.out;clear hh;refine (townCalls j hj _).mono ?_;rintro e w2 ⟨rfl,hb2⟩;have HB2 := Lib.hid (HB1.out.trans (hb2.mono HB1.out.size));have HK2 := Lib.hid (HK1.out.below hb2 HK1.out.lt);have HB3 := Lib.hid (HB2.out.alloc HB2.out.size (.cells #[.string (tn i),.string (tn j)] 9));have HK3 := Lib.hid (HK2.out.alloc (.cells #[.string (tn i),.string (tn j)] 9));have HN3 := Lib.hid (Blk.new w2 9 #[.string (tn i),.string (tn j)]);have c0 := HK3.out.cell 0;have c1 := HK3.out.cell 1;have z0 := HK3.out.frozen 0;have z1 := HK3.out.frozen 1;simp only [List.getElem?_toArray,List.getElem?_cons_zero,List.getElem?_cons_succ] at c0 c1;clear hb2)
    | (go_at_call 40;clear T1;refine (townCalls i hi _).mono ?_;rintro e w1 ⟨rfl,hb1⟩;have HB1 := Lib.hid (HB0.out.trans (hb1.mono HB0.out.size));have HK1 := Lib.hid (HK0.out.below hb1 HK0.out.lt);clear hb1))
  have hlt := HK2.out.lt
  have hne : w2.heap.size ≠ w.heap.size := by omega
  refine bodyPost_ret (v := .agg #[.string xroad,.slice (some ⟨w2.heap.size,0,none⟩) 2 2]) (by simp [results,Tryz.results18,go_sem,c0,c1];rfl) rfl ⟨w2.heap.size,rfl,by omega,?_,?_⟩
  · exact (HN3.out.far (p := ⟨w.heap.size,0,none⟩) hne _).far (p := ⟨w.heap.size,1,none⟩) hne _
  · exact (HB3.out.setCell (Nat.le_refl _) _).setCell (Nat.le_refl _) _
set_option maxRecDepth 100000 in
set_option maxHeartbeats 4000000 in
theorem wayCalls (i j : Nat) (hi : i ≤ 8) (hj : j ≤ 8) (w : World) : Calls Tryz.prog 39 #[.int .i64 (i : Int),.int .i64 (j : Int)] w (TwoPost xway i j w) := by
  obtain ⟨W0,hW0⟩ : ∃ W0 : World,w.alloc (.cells #[.string ⟨#[]⟩,.slice none 0 0] 38) = W0 := ⟨_,rfl⟩
  have HB0 := Lib.hid (show Below w.heap.size w W0 by subst hW0;exact (Below.refl _ _).alloc (Nat.le_refl _) _)
  have HK0 := Lib.hid (show Blk W0 w.heap.size 38 #[.string ⟨#[]⟩,.slice none 0 0] by subst hW0;exact Blk.new w _ _)
  have T1 := Lib.hid True.intro
  go_enter Tryz.func39,Tryz.ntmps39
  go_wp2_with (first
    | (go_at_call 40;have hh := HK1.out;clear hh;refine (townCalls j hj _).mono ?_;rintro e w2 ⟨rfl,hb2⟩;have HB2 := Lib.hid (HB1.out.trans (hb2.mono HB1.out.size));have HK2 := Lib.hid (HK1.out.below hb2 HK1.out.lt);have HB3 := Lib.hid (HB2.out.alloc HB2.out.size (.cells #[.string (tn i),.string (tn j)] 9));have HK3 := Lib.hid (HK2.out.alloc (.cells #[.string (tn i),.string (tn j)] 9));have HN3 := Lib.hid (Blk.new w2 9 #[.string (tn i),.string (tn j)]);have c0 := HK3.out.cell 0;have c1 := HK3.out.cell 1;have z0 := HK3.out.frozen 0;have z1 := HK3.out.frozen 1;simp only [List.getElem?_toArray,List.getElem?_cons_zero,List.getElem?_cons_succ] at c0 c1;clear hb2)
    | (go_at_call 40;clear T1;refine (townCalls i hi _).mono ?_;rintro e w1 ⟨rfl,hb1⟩;have HB1 := Lib.hid (HB0.out.trans (hb1.mono HB0.out.size));have HK1 := Lib.hid (HK0.out.below hb1 HK0.out.lt);clear hb1))
  have hlt := HK2.out.lt
  have hne : w2.heap.size ≠ w.heap.size := by omega
  refine bodyPost_ret (v := .agg #[.string xway,.slice (some ⟨w2.heap.size,0,none⟩) 2 2]) (by simp [results,Tryz.results39,go_sem,c0,c1];rfl) rfl ⟨w2.heap.size,rfl,by omega,?_,?_⟩
  · exact (HN3.out.far (p := ⟨w.heap.size,0,none⟩) hne _).far (p := ⟨w.heap.size,1,none⟩) hne _
  · exact (HB3.out.setCell (Nat.le_refl _) _).setCell (Nat.le_refl _) _
theorem t7_lit {W : World} {b1 b2 n : Nat} (h1 : Blk W b1 9 #[.string (tn 0),.string (tn 1)]) (h2 : Blk W b2 9 #[.string (tn 1),.string (tn 2)]) (hn : W.heap.size = n) :
    RdFacts (fun _ => True) (W.alloc (.cells #[.string xroad,.slice (some ⟨b1,0,none⟩) 2 2,.string xroad,.slice (some ⟨b2,0,none⟩) 2 2] 38)) (.slice (some ⟨n,0,none⟩) 2 2) t7Facts :=
  RdFacts.lit [.slice (some ⟨b1,0,none⟩) 2 2,.slice (some ⟨b2,0,none⟩) 2 2] rfl (by simp [maxLen]) rfl (Blk.at_ hn) fun i f v hf hv => by
    rcases i with _ | _ | i
    · obtain rfl := Option.some.inj hf
      obtain rfl := Option.some.inj hv
      exact RdStrs.lit rfl (by simp [maxLen]) (h1.alloc _)
    · obtain rfl := Option.some.inj hf
      obtain rfl := Option.some.inj hv
      exact RdStrs.lit rfl (by simp [maxLen]) (h2.alloc _)
    · simp [t7Facts] at hf
def roadsText : Str := ⟨([119,97,121,40,88,44,89,41,32,58,45,32,114,111,97,100,40,88,44,89,41,46,32,119,97,121,40,88,44,90,41,32,58,45,32,119,97,121,40,88,44,89,41,44,32,114,111,97].append [100,40,89,44,90,41,46,32,99,117,116,40,88,44,89,41,32,58,45,32,116,111,119,110,40,88,41,44,32,116,111,119,110,40,89,41,44,32,33,119,97,121,40,88,44,89,41,46]).toArray⟩
theorem parse_roads : parseF roadsText = (roadsP,0,0) := by decide +kernel
set_option maxRecDepth 100000 in
set_option maxHeartbeats 4000000 in
theorem aliveTop (w : World) : Calls Tryz.prog 16 #[] w fun e w' => e = .returned (.bool true) ∧ Below w.heap.size w w' := by
  have T1 := Lib.hid True.intro
  go_enter Tryz.func16,Tryz.ntmps16
  go_wp2_with (first
    | (go_at_call 12;have hh := HW6.out;clear hh;refine (inFact _ t7All ⟨xway,[tn 0,tn 2]⟩ _ _ HF6.out (RdStrs.lit (l := [tn 0,tn 2]) rfl (by simp [maxLen]) HW6.out) rising_t7 (by decide) (fun x hx => Nat.le_trans (args_t7 x hx) (by decide))).mono ?_;rw [mem_t7];rintro e w7 ⟨rfl,hf7⟩;have HB7 := Lib.hid (HB6.out.trans (hf7.below.mono HB6.out.size));clear hf7)
    | (go_at_call 39;have hh := HF5.out;clear hh;refine (wayCalls 0 2 (by decide) (by decide) _).mono ?_;rintro e w6 ⟨b6,rfl,-,hk6,hb6⟩;have HW6 := Lib.hid hk6;have HB6 := Lib.hid (HB5.out.trans (hb6.mono HB5.out.size));have HF6 := Lib.hid (HF5.out.up hb6);clear hk6 hb6)
    | (go_at_call 38;have hh := HK4.out;clear hh;refine (naiveKnown (r := t7All) (n := 5) rfl strata_roads naive_t7 (HR4.out.up ((Below.refl _ _).alloc (Nat.le_refl _) _)) (t7_lit HK4.out HL4.out rfl) (by decide) small_roads names_roads (by decide) args_f7).mono ?_;rintro e w5 ⟨⟨a5,c5,rfl,hr5⟩,hb5⟩;have HF5 := Lib.hid hr5;have HB5 := Lib.hid ((HB4.out.alloc HB4.out.size _).trans (hb5.mono (Nat.le_trans HB4.out.size (by simp))));have HQ5 := Lib.hid ((HQ4.out.alloc _).below hb5 (HQ4.out.alloc _).lt);have q0 := HQ5.out.cell 0;simp only [List.getElem?_toArray,List.getElem?_cons_zero] at q0;clear hr5 hb5)
    | (go_at_call 18;have hh := HK3.out;clear hh;refine (roadCalls 1 2 (by decide) (by decide) _).mono ?_;rintro e w4 ⟨b4,rfl,-,hk4,hb4⟩;have HL4 := Lib.hid hk4;have HK4 := Lib.hid (HK3.out.below hb4 HK3.out.lt);have HB4 := Lib.hid (HB3.out.trans (hb4.mono HB3.out.size));have HR4 := Lib.hid (HR3.out.up hb4);have HQ4 := Lib.hid (HQ3.out.below hb4 HQ3.out.lt);clear hk4 hb4)
    | (go_at_call 18;have hh := HR1.out;clear hh;refine (roadCalls 0 1 (by decide) (by decide) _).mono ?_;rintro e w3 ⟨b3,rfl,-,hk3,hb3⟩;have HK3 := Lib.hid hk3;have HB3 := Lib.hid ((HB1.out.alloc HB1.out.size _).trans (hb3.mono (Nat.le_trans HB1.out.size (by simp))));have HR3 := Lib.hid ((HR1.out.up ((Below.refl _ _).alloc (Nat.le_refl _) _)).up hb3);have HQ3 := Lib.hid (HQ1.out.below hb3 HQ1.out.lt);clear hk3 hb3)
    | (go_at_call 37;clear T1;refine (parseKnown (s := roadsText) (n := 3) (by rfl) (by decide) parse_roads _).mono ?_;rintro e w1 ⟨⟨a1,c1,rfl,hr1⟩,hb1⟩;have HR1 := Lib.hid hr1;have HB1 := Lib.hid hb1;have HQ1 := Lib.hid (Blk.new w1 49 #[.int .i64 0,.int .i64 0]);clear hr1 hb1))
  go_ret
  exact ⟨ret_bool (by simp),HB7.out⟩
end Go.Proofs.YtiiicochdidolaaGreat
namespace Go.Proofs.YtiiicochdidolaaGreat
def Sync (ps : List (PRule × Int)) (s : Int) (known new : List PFact) : Prop := ∀ r t,(r,t) ∈ ps → t = s → ∀ x,Derives r known x → x ∈ known ∨ Makes r known new x
theorem sync_all (ps : List (PRule × Int)) (s : Int) (known : List PFact) : Sync ps s known known := fun r t _ _ x hx => by
  by_cases h : ∃ a ∈ r.body,a.neg = false
  · obtain ⟨a,ha,hn⟩ := h
    obtain ⟨i,hi⟩ := List.mem_iff_getElem?.1 ha
    obtain ⟨m,hm,hf⟩ := hx
    refine .inr (.inl ⟨i,a,m,hi,hn,?_,hf⟩)
    have e : pickP known known (i : Int) = fun _ => known := funext fun j => by unfold pickP;split <;> rfl
    rw [e];exact hm
  · refine .inr (.inr ⟨fun a ha => ?_,hx⟩)
    cases hn : a.neg
    · exact absurd ⟨a,ha,hn⟩ h
    · rfl
def Still (ps : List (PRule × Int)) (s : Int) (known known' : List PFact) : Prop := ∀ r t,(r,t) ∈ ps → t = s → ∀ a ∈ r.body,a.neg = true → ∀ f ∈ known',f.name = a.name → f ∈ known
theorem still_of {p : List PRule} {L : Str → Nat} (hS : Sol p L) {n : Int} {r r' : PRun} (hsub : ∀ x ∈ r.new,x ∈ r.known) (h : Stepped (withL L p) n r r') : Still (withL L p) r.stratum r.known r'.known := fun r0 t hm e a ha hn f hf hname => by
  rcases (h.mem f).1 hf with h1 | h1
  · exact h1
  · obtain ⟨r1,t1,hm1,e1,hd⟩ := h1.derives hsub
    obtain ⟨k1,k2⟩ := mem_withL.1 hm1
    obtain ⟨g1,g2⟩ := mem_withL.1 hm
    have hnm := hd.name
    have hhead : a.name ∈ headsOf p := by rw [← hname,hnm];exact List.mem_map.2 ⟨r1,k1,rfl⟩
    have hdl : dl p a = 1 := by unfold dl;rw [if_pos ⟨hn,hhead⟩]
    have := hS.up r0 g1 a ha
    rw [hdl,← hname,hnm] at this
    omega
theorem Stepped.all {ps : List (PRule × Int)} {n : Int} {r r' : PRun} (hy : Sync ps r.stratum r.known r.new) (h : Stepped ps n r r') {r0 : PRule} {t : Int} (hm : (r0,t) ∈ ps) (e : t = r.stratum) {x : PFact} (hd : Derives r0 r.known x) : x ∈ r'.known := by
  rcases hy r0 t hm e x hd with h1 | h1
  · exact h.sub x h1
  · exact (h.mem x).2 (.inr ⟨r0,t,hm,e,h1⟩)
theorem Stepped.sync {ps : List (PRule × Int)} {n : Int} {r r' : PRun} (hy : Sync ps r.stratum r.known r.new) (h : Stepped ps n r r') (_hst : Still ps r.stratum r.known r'.known) : Sync ps r'.stratum r'.known r'.new := by
  rcases h.how with ⟨e1,e2,-,-⟩ | ⟨e1,-,-,e2⟩
  · rw [e1,e2];exact sync_all _ _ _
  · intro r0 t hm e x hd
    rw [e1] at e
    obtain ⟨m,⟨t1,t2,t3,t4⟩,hf⟩ := hd
    by_cases hnew : ∃ (i : Nat) (a : PAtom) (f : PFact),r0.body[i]? = some a ∧ a.neg = false ∧ fillP a m = some f ∧ f ∈ r'.new
    · obtain ⟨i,a,f,hi,hn,hfa,hfn⟩ := hnew
      refine .inr (.inl ⟨i,a,m,hi,hn,⟨t1,t2,t3,fun j c hc => ?_⟩,hf⟩)
      obtain ⟨g,k1,k2⟩ := t4 j c hc
      refine ⟨g,k1,?_⟩
      unfold pickP
      by_cases ej : (j : Int) = (i : Int)
      · rw [if_pos ej]
        have ej' : j = i := by omega
        subst ej'
        rw [hi] at hc;injection hc with hc;subst hc
        rw [hfa] at k1;injection k1 with k1;subst k1
        rw [hn]
        exact (memF_iff f r'.new).2 hfn
      · rw [if_neg ej];exact k2
    · refine .inl (h.all hy hm e ⟨m,⟨t1,t2,t3,fun j c hc => ?_⟩,hf⟩)
      obtain ⟨g,k1,k2⟩ := t4 j c hc
      refine ⟨g,k1,?_⟩
      cases hn : c.neg
      · rw [hn] at k2
        have hg : g ∈ r'.known := (memF_iff g r'.known).1 k2
        refine (memF_iff g r.known).2 (Classical.byContradiction fun hno => ?_)
        exact hnew ⟨j,c,g,hc,hn,k1,(e2 g).2 ⟨hg,hno⟩⟩
      · rw [hn] at k2
        show memF g r.known = false
        rw [Bool.eq_false_iff]
        intro hk
        have := (memF_iff g r'.known).2 (h.sub g ((memF_iff g r.known).1 hk))
        rw [this] at k2;cases k2
theorem sim_stratum {p : List PRule} {L : Str → Nat} (hS : Sol p L) {st : List Int} (hst : p.zip st = withL L p) (hR : Ruled st p) : ∀ {k N : Nat} {r : PRun},RunOk st p r → r.done = false → Sync (p.zip st) r.stratum r.known r.new →
    200 < k + r.known.length → r.rounds + N ≤ 1000 → 201 - r.known.length ≤ N →
    (fixP (p.zip st) r.stratum k r.known).2 = 4 ∨ (iterP st 0 p N r).2 = 4 ∨ ((fixP (p.zip st) r.stratum k r.known) = ([],5) ∧ iterP st 0 p N r = (zeroRun,5)) ∨
    ((fixP (p.zip st) r.stratum k r.known).2 = 0 ∧ ∃ (j : Nat) (r' : PRun),j + r.known.length ≤ r'.known.length + 1 ∧ j ≤ N ∧ iterP st 0 p N r = iterP st 0 p (N - j) r' ∧ RunOk st p r' ∧ r'.known = (fixP (p.zip st) r.stratum k r.known).1 ∧ r'.new = r'.known ∧ r'.stratum = r.stratum + 1 ∧ r'.rounds = r.rounds + j)
  | 0,N,r,h,_,_,hk,_,_ => by have := h.known.len;omega
  | k + 1,N,r,h,hd,hy,hk,hN,hN2 => by
    have hlen := h.known.len
    obtain ⟨N,rfl⟩ : ∃ M,N = M + 1 := ⟨N - 1,by omega⟩
    have hit : iterP st 0 p (N + 1) r = if (goodStep st p r).2 ≠ 0 then (zeroRun,(goodStep st p r).2) else iterP st 0 p N (goodStep st p r).1 := by
      rw [iterP,if_neg (by rw [hd];simp),step_good_eq h]
    have hb : ∀ r s,(r,s) ∈ p.zip st → bodyBad r.body = 0 := fun r s hm => hR.body hm
    have hset : (setF r.known).1 = 0 := by rw [h.known.set]
    have hreach : ∀ x,ReachF r.stratum r.known (p.zip st) r.known x → x ∈ r.known ∨ ∃ r0 t,(r0,t) ∈ p.zip st ∧ t = r.stratum ∧ Derives r0 r.known x := fun x hx => by
      rcases hx with hx | ⟨r0,s,hm,e,hx⟩
      · exact .inl hx
      · refine .inr ⟨r0,s,hm,e,?_⟩
        by_cases he : (headsP r0 r.known).2 = 0
        · exact (mem_heads he x).1 hx
        · rw [(heads_err he).1] at hx;simp at hx
    rw [fixP]
    rcases step_cases hR h hd with h1 | ⟨h1,h2⟩ | ⟨h1,h2,h3⟩
    · exact .inr (.inl (by rw [hit,h1];rfl))
    · have h5 : iterP st 0 p (N + 1) r = (zeroRun,5) := by rw [hit,h1];rfl
      rcases once_cases hset hb (n := r.stratum) (out := r.known) with g | ⟨g,-⟩ | ⟨g,-⟩
      · exfalso
        have hRd := once_round g h.known.rise hlen
        rcases h2 with h2 | ⟨l,l1,l2,l3⟩
        · omega
        · have := rising_sub_le (a := l) (b := (onceP r.stratum r.known (p.zip st) r.known).1) l1 fun x hx => by
            rcases (l3 x).1 hx with hx | hx
            · exact (hRd.mem x).2 (.inl hx)
            · obtain ⟨r0,t,hm,e,hdv⟩ := hx.derives h.sub
              exact (hRd.mem x).2 (.inr ⟨r0,t,hm,e,(mem_heads (hRd.ok r0 t hm e) x).2 hdv⟩)
          have := hRd.len
          omega
      · exact .inl (by rw [if_pos (by rw [g];decide),g])
      · exact .inr (.inr (.inl ⟨by rw [if_pos (by rw [g];decide),g],h5⟩))
    · have hiN : iterP st 0 p (N + 1) r = iterP st 0 p N (goodStep st p r).1 := by rw [hit,if_neg (by simpa using h1)]
      have hok := h3.ok hR h hd h2
      generalize goodStep st p r = rs at *
      obtain ⟨r',e'⟩ := rs
      dsimp only at h1 h3 hok hiN
      rcases once_cases hset hb (n := r.stratum) (out := r.known) with g | ⟨g,-⟩ | ⟨g,g2⟩
      · have hRd := once_round g h.known.rise hlen
        have heq : (onceP r.stratum r.known (p.zip st) r.known).1 = r'.known := rising_ext hRd.rise h3.rise fun x => by
          rw [hRd.mem]
          constructor
          · intro hx
            rcases hreach x hx with hx | ⟨r0,t,hm,e,hdv⟩
            · exact h3.sub x hx
            · exact h3.all hy hm e hdv
          · intro hx
            rcases (h3.mem x).1 hx with hx | hx
            · exact .inl hx
            · obtain ⟨r0,t,hm,e,hdv⟩ := hx.derives h.sub
              exact .inr ⟨r0,t,hm,e,(mem_heads (hRd.ok r0 t hm e) x).2 hdv⟩
        rw [if_neg (by simpa using g),heq]
        rcases h3.how with ⟨a1,a2,a3,a4⟩ | ⟨a1,a2,⟨x,hx⟩,a4⟩
        · rw [if_pos (by rw [a1])]
          refine .inr (.inr (.inr ⟨rfl,1,r',by rw [a1];omega,by omega,?_,hok,a1,by rw [a1,a2],a3,h3.rounds⟩))
          rw [hiN];rfl
        · have hlt : r.known.length + 1 ≤ r'.known.length := by
            obtain ⟨b1,b2⟩ := (a4 x).1 hx
            have := nodup_le (l := x :: r.known) (m := r'.known) (List.nodup_cons.2 ⟨b2,nodup_rising h.known.rise⟩) fun y hy => by
              rcases List.mem_cons.1 hy with rfl | hy
              · exact b1
              · exact h3.sub y hy
            simpa using this
          rw [if_neg (by omega)]
          have hst' : Still (p.zip st) r.stratum r.known r'.known := by rw [hst] at h3 ⊢;exact still_of hS h.sub h3
          have hr := h3.rounds
          have ih := sim_stratum hS hst hR (k := k) (N := N) hok a2 (h3.sync hy hst') (by omega) (by omega) (by omega)
          rw [a1] at ih
          rw [hiN]
          rcases ih with ih | ih | ih | ⟨i0,j,r2,i1,i2,i3,i4,i5,i6,i7,i8⟩
          · exact .inl ih
          · exact .inr (.inl ih)
          · exact .inr (.inr (.inl ih))
          · refine .inr (.inr (.inr ⟨i0,j + 1,r2,by omega,by omega,?_,i4,i5,i6,i7,by omega⟩))
            rw [i3,show N + 1 - (j + 1) = N - j by omega]
      · exact .inl (by rw [if_pos (by rw [g];decide),g])
      · exfalso
        have := g2 r'.known h3.rise fun x hx => by
          rcases hreach x hx with hx | ⟨r0,t,hm,e,hdv⟩
          · exact h3.sub x hx
          · exact h3.all hy hm e hdv
        have := h3.len
        omega
theorem sim_run {p : List PRule} {L : Str → Nat} (hS : Sol p L) {st : List Int} (hst : p.zip st = withL L p) (hR : Ruled st p) : ∀ {k N : Nat} {r : PRun},RunOk st p r → r.new = r.known → r.stratum + k = countP st → r.rounds + N ≤ 1000 → 200 + k ≤ N + r.known.length →
    (runP (p.zip st) k r.stratum r.known).2 = 4 ∨ (iterP st 0 p N r).2 = 4 ∨ ((runP (p.zip st) k r.stratum r.known) = ([],5) ∧ iterP st 0 p N r = (zeroRun,5)) ∨
    ((runP (p.zip st) k r.stratum r.known).2 = 0 ∧ (iterP st 0 p N r).2 = 0 ∧ (iterP st 0 p N r).1.known = (runP (p.zip st) k r.stratum r.known).1)
  | 0,N,r,h,hn,hk,hN,hN2 => by
    have hd : r.done = true := by rw [h.done];simp;omega
    rw [iter_still hd]
    exact .inr (.inr (.inr ⟨rfl,rfl,rfl⟩))
  | k + 1,N,r,h,hn,hk,hN,hN2 => by
    have hd : r.done = false := by rw [h.done];simp;omega
    have hlen := h.known.len
    have hsim := sim_stratum hS hst hR (k := 201) (N := N) h hd (by rw [hn];exact sync_all _ _ _) (by omega) hN (by omega)
    rw [runP]
    rcases hsim with g | g | ⟨g1,g2⟩ | ⟨g0,j,r',i1,i2,i3,i4,i5,i6,i7,i8⟩
    · exact .inl (by rw [if_pos (by rw [g];decide),g])
    · exact .inr (.inl g)
    · exact .inr (.inr (.inl ⟨by rw [if_pos (by rw [g1];decide),g1],g2⟩))
    · rw [if_neg (by simpa using g0),i3,← i5,← i7]
      have hlen' := i4.known.len
      exact sim_run hS hst hR (k := k) (N := N - j) i4 i6 (by omega) (by omega) (by omega)
theorem round_same {p : List PRule} {l : List PFact} {st : List Int} {q : Int × Int} (hs : StrataIs p st q) : (naiveP st q.1 p l).2 = 4 ∨ (allRun st q.1 p l).2 = 4 ∨ naiveP st q.1 p l = allRun st q.1 p l := by
  by_cases h1 : q.1 = 0
  case neg =>
    refine .inr (.inr ?_)
    unfold naiveP allRun beginP
    rw [if_pos h1,if_pos h1,if_pos h1]
  by_cases h2 : (factsBad p l).1 = 0
  case neg =>
    refine .inr (.inr ?_)
    have hb : beginP st q.1 p l = (zeroRun,(factsBad p l).1) := by unfold beginP;rw [if_neg (by simpa using h1),if_pos h2]
    unfold naiveP allRun
    rw [hb,if_neg (by simpa using h1),if_pos h2,if_pos h2]
  obtain ⟨hR,c0,c1,L,hL,e⟩ := strata_count hs h1
  have hb0 : (beginP st q.1 p l).2 = 0 := by unfold beginP;rw [if_neg (by simpa using h1),if_neg (by simpa using h2)]
  obtain ⟨-,-,b1,b2⟩ := begin_ok hs hb0
  have hst : p.zip st = withL L p := by rw [e];exact zip_withL L p
  have hn : naiveP st q.1 p l = runP (p.zip st) (countP st).toNat 0 l := by unfold naiveP;rw [if_neg (by simpa using h1),if_neg (by simpa using h2)]
  rw [b1] at b2
  have hstep := steps_good b2 (n := 1000) (by omega) (by omega)
  have ha : allRun st q.1 p l = if (iterP st 0 p 1000 ⟨l,l,0,0,countP st == 0⟩).2 ≠ 0 then ([],(iterP st 0 p 1000 ⟨l,l,0,0,countP st == 0⟩).2) else ((iterP st 0 p 1000 ⟨l,l,0,0,countP st == 0⟩).1.known,0) := by
    unfold allRun
    rw [b1,if_neg (by simp),h1]
    show (if (stepsRun st 0 p ⟨l,l,0,0,countP st == 0⟩ 1000).2 ≠ 0 then _ else _) = _
    rw [hstep]
    rfl
  have hsim := sim_run hL.sol hst hR (k := (countP st).toNat) (N := 1000) (r := ⟨l,l,0,0,countP st == 0⟩) b2 rfl (by show (0 : Int) + _ = _;omega) (by show (0 : Int) + ((1000 : Nat) : Int) ≤ 1000;omega) (by show 200 + _ ≤ 1000 + l.length;omega)
  rw [hn,ha]
  generalize iterP st 0 p 1000 ⟨l,l,0,0,countP st == 0⟩ = I at *
  obtain ⟨I1,I2⟩ := I
  rcases hsim with g | g | ⟨g1,g2⟩ | ⟨g1,g2,g3⟩
  · exact .inl g
  · have g : I2 = 4 := g
    subst g
    exact .inr (.inl rfl)
  · refine .inr (.inr ?_)
    have e1 : runP (p.zip st) (countP st).toNat 0 l = ([],5) := g1
    rw [e1,g2];rfl
  · refine .inr (.inr ?_)
    have g2 : I2 = 0 := g2
    subst g2
    have g1 : (runP (p.zip st) (countP st).toNat 0 l).2 = 0 := g1
    have g3 : I1.known = (runP (p.zip st) (countP st).toNat 0 l).1 := g3
    show _ = (I1.known,(0 : Int))
    rw [g3]
    exact Prod.ext rfl g1
end Go.Proofs.YtiiicochdidolaaGreat
namespace Go.Proofs.YtiiicochdidolaaGreat
end Go.Proofs.YtiiicochdidolaaGreat
