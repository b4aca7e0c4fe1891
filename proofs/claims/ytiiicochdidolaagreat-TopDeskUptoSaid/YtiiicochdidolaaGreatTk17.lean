/-
  THE TEXTS Fits, TopN, ProofP, TopF, one behind the other.
-/
import Derived.Test.YtiiicochdidolaaGreatTk1
import Derived.Test.YtiiicochdidolaaGreatTk15
import Derived.Test.YtiiicochdidolaaGreatTk16
namespace Go.Proofs.YtiiicochdidolaaGreat
def posN (b : List PAtom) : Nat := (b.filter fun a => !a.neg).length
theorem step_len {a : PAtom} {fs : List PFact} : ∀ ls : List Binds,(stepP ls a fs).length ≤ ls.length * fs.length
  | [] => by simp [stepP]
  | l :: ls => by
    have h := step_len (a := a) (fs := fs) ls
    unfold stepP at h ⊢
    rw [List.flatMap_cons,List.length_append,List.length_cons,Nat.add_mul,Nat.one_mul]
    have := List.length_filterMap_le (fun f => meetP a f l) fs
    omega
theorem goP_fits {pick : Nat → List PFact} {K : Nat} (hK : ∀ i,(pick i).length ≤ K) (h1 : 1 ≤ K) : ∀ (body : List PAtom) (i : Nat) (ls : List Binds),ls.length * K ^ posN body ≤ 20000 → ∃ out,goP pick i ls body = some out
  | [],i,ls,_ => ⟨ls,rfl⟩
  | a :: b,i,ls,h => by
    rw [goP]
    by_cases hn : a.neg = true
    · rw [if_pos hn]
      refine goP_fits hK h1 b (i + 1) ls ?_
      have e : posN (a :: b) = posN b := by unfold posN;rw [List.filter_cons,if_neg (by simp [hn])]
      rwa [e] at h
    · rw [if_neg hn]
      have e : posN (a :: b) = posN b + 1 := by unfold posN;rw [List.filter_cons,if_pos (by simp [hn])];rfl
      rw [e,Nat.pow_succ,Nat.mul_comm (K ^ posN b) K,← Nat.mul_assoc] at h
      have h2 : (stepP ls a (pick i)).length ≤ ls.length * K := Nat.le_trans (step_len ls) (Nat.mul_le_mul_left _ (hK i))
      have h3 : (stepP ls a (pick i)).length * K ^ posN b ≤ 20000 := Nat.le_trans (Nat.mul_le_mul_right _ h2) h
      have h4 : 1 ≤ K ^ posN b := Nat.one_le_pow _ _ h1
      have h5 : (stepP ls a (pick i)).length ≤ 20000 := Nat.le_trans (Nat.le_trans (Nat.le_of_eq (Nat.mul_one _).symm) (Nat.mul_le_mul_left _ h4)) h3
      rw [if_neg (by omega)]
      exact goP_fits hK h1 b (i + 1) _ h3
theorem with_fits {body : List PAtom} {facts other : List PFact} {at' : Int} (hb : bodyBad body = 0) (hf : (setF facts).1 = 0) (ho : (setF other).1 = 0) (l1 : facts.length ≤ 140) (l2 : other.length ≤ 140) (hp : posN body ≤ 2) : (withP body facts at' other).2 = 0 := by
  unfold withP
  rw [if_neg (by simpa using hb),if_neg (by simpa using hf),if_neg (by simpa using ho)]
  obtain ⟨out,h⟩ := goP_fits (pick := pickP facts other at') (K := 140) (fun i => by unfold pickP;split <;> assumption) (by decide) body 0 [[]] (by
    have h2 : (140 : Nat) ^ posN body ≤ 140 ^ 2 := Nat.pow_le_pow_right (by decide) hp
    show 1 * 140 ^ posN body ≤ 20000
    rw [Nat.one_mul]
    exact Nat.le_trans h2 (by decide))
  rw [h]
structure FitU (p : List PRule) (U : List PFact) : Prop where
  rules : ∀ r ∈ p,ruleBad r = 0 ∧ posN r.body ≤ 2
  few : U.length ≤ 140
  fine : ∀ x ∈ U,wrongF x = 0
  closed : ∀ r ∈ p,∀ (O : List PFact) (x : PFact),(∀ y ∈ O,y ∈ U) → Derives r O x → x ∈ U
def InU (U l : List PFact) : Prop := Rising l ∧ ∀ x ∈ l,x ∈ U
section
variable {p : List PRule} {U : List PFact}
theorem InU.len (hF : FitU p U) {l : List PFact} (h : InU U l) : l.length ≤ 140 := Nat.le_trans (nodup_le (nodup_rising h.1) h.2) hF.few
theorem InU.good (hF : FitU p U) {l : List PFact} (h : InU U l) : Good l := ⟨h.1,by have := h.len hF;omega,fun x hx => hF.fine x (h.2 x hx)⟩
theorem InU.set (hF : FitU p U) {l : List PFact} (h : InU U l) : (setF l).1 = 0 := by rw [(h.good hF).set]
theorem all_fits (hF : FitU p U) {l : List PFact} (h : InU U l) {r : PRule} (hr : r ∈ p) : (allP r.body l).2 = 0 :=
  with_fits (ruleBad_zero (hF.rules r hr).1).2.2.1 (h.set hF) (by rw [setF_nil]) (h.len hF) (by simp) (hF.rules r hr).2
theorem heads_fits (hF : FitU p U) {l : List PFact} (h : InU U l) {r : PRule} (hr : r ∈ p) : (headsP r l).2 = 0 ∧ InU U (headsP r l).1 := by
  have h0 : (headsP r l).2 = 0 := by unfold headsP;rw [if_neg (by rw [all_fits hF h hr];simp)]
  exact ⟨h0,heads_rising r l,fun x hx => hF.closed r hr l x h.2 ((mem_heads h0 x).1 hx)⟩
theorem join_in {a b : List PFact} (ha : ∀ x ∈ a,x ∈ U) (hb : ∀ x ∈ b,x ∈ U) : InU U (joinF a b) := ⟨ofF_rising _,fun x hx => ((mem_joinF a b x).1 hx).elim (ha x) (hb x)⟩
theorem once_fits (hF : FitU p U) {n : Int} {l : List PFact} (h : InU U l) : ∀ {ps : List (PRule × Int)} {out : List PFact},(∀ r s,(r,s) ∈ ps → r ∈ p) → InU U out → (onceP n l ps out).2 = 0 ∧ InU U (onceP n l ps out).1
  | [],out,_,ho => ⟨rfl,ho⟩
  | (r,s) :: ps,out,hp,ho => by
    have hp' : ∀ r s,(r,s) ∈ ps → r ∈ p := fun r s hm => hp r s (by simp [hm])
    rw [onceP]
    split
    · exact once_fits hF h hp' ho
    · obtain ⟨h1,h2⟩ := heads_fits hF h (hp r s (by simp))
      have hj := join_in ho.2 h2.2
      rw [if_neg (by rw [h1];simp),if_neg (by have := hj.len hF;omega)]
      exact once_fits hF h hp' hj
theorem fix_fits (hF : FitU p U) {ps : List (PRule × Int)} (hp : ∀ r s,(r,s) ∈ ps → r ∈ p) {n : Int} : ∀ {k : Nat} {out : List PFact},InU U out → (fixP ps n k out).2 = 0 ∧ InU U (fixP ps n k out).1
  | 0,out,ho => ⟨rfl,ho⟩
  | k + 1,out,ho => by
    obtain ⟨h1,h2⟩ := once_fits hF (n := n) ho hp ho
    rw [fixP,if_neg (by rw [h1];simp)]
    split
    · exact ⟨rfl,ho⟩
    · exact fix_fits hF hp h2
theorem run_fits (hF : FitU p U) {ps : List (PRule × Int)} (hp : ∀ r s,(r,s) ∈ ps → r ∈ p) : ∀ {k : Nat} {i : Int} {out : List PFact},InU U out → (runP ps k i out).2 = 0 ∧ InU U (runP ps k i out).1
  | 0,i,out,ho => ⟨rfl,ho⟩
  | k + 1,i,out,ho => by
    obtain ⟨h1,h2⟩ := fix_fits hF hp (n := i) (k := 201) ho
    rw [runP,if_neg (by rw [h1];simp)]
    exact run_fits hF hp h2
theorem naive_fits (hF : FitU p U) {st : List Int} {l : List PFact} (h : InU U l) (hl : (factsBad p l).1 = 0) : (naiveP st 0 p l).2 = 0 ∧ InU U (naiveP st 0 p l).1 := by
  unfold naiveP
  rw [if_neg (by simp),if_neg (by simpa using hl)]
  exact run_fits hF (fun r s hm => (List.of_mem_zip hm).1) h
theorem newP_fits (hF : FitU p U) {x : PRule} (hx : x ∈ p) {known new : List PFact} (hk : InU U known) (hn : InU U new) : ∀ (b : List PAtom) (i : Nat) (out : List PFact) (sm : Bool),(newP x known new i b out sm).2 = 0
  | [],i,out,sm => by
    rw [newP]
    split
    · rfl
    · exact (heads_fits hF hk hx).1
  | a :: b,i,out,sm => by
    rw [newP]
    split
    · exact newP_fits hF hx hk hn b _ _ _
    · rw [if_neg (by rw [with_fits (ruleBad_zero (hF.rules x hx).1).2.2.1 (hk.set hF) (hn.set hF) (hk.len hF) (hn.len hF) (hF.rules x hx).2];simp)]
      exact newP_fits hF hx hk hn b _ _ _
theorem make_fits (hF : FitU p U) {s : Int} {known new : List PFact} (hk : InU U known) (hn : InU U new) : ∀ {ps : List (PRule × Int)} {made : List PFact},(∀ r t,(r,t) ∈ ps → r ∈ p) → (makeP s known new ps made).2 = 0
  | [],made,_ => rfl
  | (r,t) :: ps,made,hp => by
    have hp' : ∀ r t,(r,t) ∈ ps → r ∈ p := fun r s hm => hp r s (by simp [hm])
    rw [makeP]
    split
    · exact make_fits hF hk hn hp'
    · rw [if_neg (by unfold newHeads;rw [newP_fits hF (hp r t (by simp)) hk hn];simp)]
      exact make_fits hF hk hn hp'
structure RunFit (st : List Int) (p : List PRule) (U : List PFact) (r : PRun) : Prop where
  ok : RunOk st p r
  known : InU U r.known
  rounds : r.rounds ≤ r.known.length + r.stratum
theorem RunFit.new {st : List Int} {r : PRun} (h : RunFit st p U r) : InU U r.new := ⟨h.ok.new.rise,fun x hx => h.known.2 x (h.ok.sub x hx)⟩
theorem RunFit.step (hF : FitU p U) {st : List Int} (hR : Ruled st p) (hc : countP st ≤ 16) {r : PRun} (h : RunFit st p U r) (hd : r.done = false) : (goodStep st p r).2 = 0 ∧ RunFit st p U (goodStep st p r).1 ∧ Stepped (p.zip st) (countP st) r (goodStep st p r).1 := by
  have hm := make_fits hF h.known h.new (s := r.stratum) (ps := p.zip st) (made := []) (fun r t hm => (List.of_mem_zip hm).1)
  have hl := h.known.len hF
  have hr1 : r.rounds ≠ 1000 := by have := h.rounds;have := h.ok.s1;omega
  have hin : ∀ x,x ∈ r.known ∨ MakesS (p.zip st) r.stratum r.known r.new x → x ∈ U := fun x hx => by
    rcases hx with hx | hx
    · exact h.known.2 x hx
    · obtain ⟨r1,t1,hm1,-,hd1⟩ := hx.derives h.ok.sub
      exact hF.closed r1 (List.of_mem_zip hm1).1 _ x h.known.2 hd1
  rcases step_cases hR h.ok hd with h1 | ⟨h1,h2 | ⟨l,h2,h3,h4⟩⟩ | ⟨h1,h2,h3⟩
  · exfalso
    unfold goodStep at h1
    rw [if_neg (by rw [hd];simp),if_neg hr1,if_neg (by rw [hm];simp)] at h1
    split at h1
    · injection h1 with _ h2;exact absurd h2 (by decide)
    · injection h1 with _ h2;exact absurd h2 (by decide)
  · exact absurd h2 hr1
  · have := InU.len hF (l := l) ⟨h2,fun x hx => hin x ((h4 x).1 hx)⟩
    omega
  · refine ⟨h1,⟨h3.ok hR h.ok hd h2,⟨h3.rise,fun x hx => hin x ((h3.mem x).1 hx)⟩,?_⟩,h3⟩
    have hrd := h.rounds
    have hr2 := h3.rounds
    rcases h3.how with ⟨e,-,e2,-⟩ | ⟨e,-,⟨x,hx⟩,e2⟩
    · rw [e,e2];omega
    · rw [e]
      obtain ⟨a,b⟩ := (e2 x).1 hx
      have := nodup_le (l := x :: r.known) (m := (goodStep st p r).1.known) (List.nodup_cons.2 ⟨b,nodup_rising h.known.1⟩) fun y hy => by
        rcases List.mem_cons.1 hy with rfl | hy
        · exact a
        · exact h3.sub y hy
      simp only [List.length_cons] at this
      omega
theorem RunFit.iter (hF : FitU p U) {st : List Int} (hR : Ruled st p) (hc : countP st ≤ 16) : ∀ {n : Nat} {r : PRun},RunFit st p U r → (iterP st 0 p n r).2 = 0 ∧ RunFit st p U (iterP st 0 p n r).1
  | 0,r,h => ⟨rfl,h⟩
  | n + 1,r,h => by
    cases hd : r.done
    case true => rw [iter_still hd];exact ⟨rfl,h⟩
    obtain ⟨h1,h2,-⟩ := h.step hF hR hc hd
    rw [iterP,if_neg (by rw [hd];simp),step_good_eq h.ok,if_neg (by simpa using h1)]
    exact RunFit.iter hF hR hc h2
theorem rounds_fit (hF : FitU p U) {st : List Int} {q : Int × Int} (hs : StrataIs p st q) (hq : q.1 = 0) {l : List PFact} (h : InU U l) (hl : (factsBad p l).1 = 0) : (allRun st q.1 p l).2 = 0 ∧ allRun st q.1 p l = naiveP st q.1 p l := by
  obtain ⟨hR,-,hc,-⟩ := strata_count hs hq
  have hbe : beginP st q.1 p l = (⟨l,l,0,0,countP st == 0⟩,0) := by unfold beginP;rw [if_neg (by simpa using hq),if_neg (by simpa using hl)]
  obtain ⟨-,-,-,hok⟩ := begin_ok hs (l := l) (by rw [hbe])
  rw [hbe] at hok
  have hfit : RunFit st p U ⟨l,l,0,0,countP st == 0⟩ := ⟨hok,h,by show (0 : Int) ≤ (l.length : Int) + 0;omega⟩
  obtain ⟨h1,-⟩ := hfit.iter hF hR hc (n := (1000 : Int).toNat)
  have h0 : (allRun st q.1 p l).2 = 0 := by
    unfold allRun
    rw [hbe,if_neg (by simp)]
    dsimp only
    rw [hq,steps_good hok (by omega) (by omega),if_neg (by simpa using h1)]
  refine ⟨h0,?_⟩
  rcases round_same (l := l) hs with e | e | e
  · rw [hq,(naive_fits hF h hl).1] at e;cases e
  · rw [h0] at e;cases e
  · exact e.symm
end
end Go.Proofs.YtiiicochdidolaaGreat
namespace Go.Proofs.YtiiicochdidolaaGreat
section
variable (ps : List (Nat × Nat)) (n : Nat)
def edgeB (a b : Nat) : Bool := decide ((a,b) ∈ ps)
def reachK : Nat → Nat → Nat → Bool
  | 0,_,_ => false
  | k + 1,a,c => reachK k a c || edgeB ps a c || (List.range n).any fun b => reachK k a b && edgeB ps b c
end
variable {ps : List (Nat × Nat)} {n : Nat}
theorem reach_succ {k a c : Nat} : reachK ps n (k + 1) a c = true ↔ reachK ps n k a c = true ∨ edgeB ps a c = true ∨ ∃ b,b < n ∧ reachK ps n k a b = true ∧ edgeB ps b c = true := by
  rw [reachK]
  simp only [Bool.or_eq_true,List.any_eq_true,List.mem_range,Bool.and_eq_true,or_assoc]
theorem reach_mono {k a c : Nat} (h : reachK ps n k a c = true) : ∀ j,reachK ps n (k + j) a c = true
  | 0 => h
  | j + 1 => reach_succ.2 (.inl (reach_mono h j))
theorem bool_iff {a b : Bool} (h : a = true ↔ b = true) : a = b := by cases a <;> cases b <;> simp_all
theorem reach_still {k a : Nat} (h : ∀ c,c < n → reachK ps n (k + 1) a c = reachK ps n k a c) : ∀ j c,c < n → reachK ps n (k + j) a c = reachK ps n k a c
  | 0,_,_ => rfl
  | j + 1,c,hc => bool_iff (by
    constructor
    · intro h1
      rw [← h c hc]
      rcases reach_succ.1 h1 with h2 | h2 | ⟨b,hb,h2,h3⟩
      · exact reach_succ.2 (.inl (by rw [← reach_still h j c hc];exact h2))
      · exact reach_succ.2 (.inr (.inl h2))
      · exact reach_succ.2 (.inr (.inr ⟨b,hb,by rw [← reach_still h j b hb];exact h2,h3⟩))
    · intro h1;exact reach_mono h1 (j + 1))
theorem filter_lt {α : Type} {p q : α → Bool} : ∀ {l : List α},(∀ x ∈ l,p x = true → q x = true) → (∃ x ∈ l,q x = true ∧ p x = false) → (l.filter p).length < (l.filter q).length
  | [],_,⟨x,hx,_⟩ => by cases hx
  | y :: l,h,⟨x,hx,hq,hp⟩ => by
    have hle : (l.filter p).length ≤ (l.filter q).length := by
      have main : ∀ (l : List α),(∀ x ∈ l,p x = true → q x = true) → (l.filter p).length ≤ (l.filter q).length := by
        intro l
        induction l with
        | nil => intro _;simp
        | cons z l ih =>
          intro h
          have h1 := ih fun x hx => h x (by simp [hx])
          rw [List.filter_cons,List.filter_cons]
          cases hz : p z
          · cases hz2 : q z
            · exact h1
            · simp only [if_true,List.length_cons];simp;omega
          · rw [h z (by simp) hz];simp;omega
      exact main l fun x hx => h x (by simp [hx])
    rcases List.mem_cons.1 hx with rfl | hx
    · rw [List.filter_cons,List.filter_cons,hp,hq]
      simp
      omega
    · have h1 := filter_lt (l := l) (fun x hx => h x (by simp [hx])) ⟨x,hx,hq,hp⟩
      rw [List.filter_cons,List.filter_cons]
      cases hz : p y
      · cases hz2 : q y
        · exact h1
        · simp;omega
      · rw [h y (by simp) hz];simp;omega
theorem reach_stops (a : Nat) : ∃ k,k ≤ n ∧ ∀ c,c < n → reachK ps n (k + 1) a c = reachK ps n k a c := by
  refine Classical.byContradiction fun hno => ?_
  have hgrow : ∀ k,k ≤ n → ∃ c,c < n ∧ reachK ps n (k + 1) a c = true ∧ reachK ps n k a c = false := fun k hk => by
    refine Classical.byContradiction fun h1 => hno ⟨k,hk,fun c hc => ?_⟩
    cases h2 : reachK ps n k a c
    · cases h3 : reachK ps n (k + 1) a c
      · rfl
      · exact absurd ⟨c,hc,h3,h2⟩ h1
    · exact reach_mono h2 1
  have hcount : ∀ k,k ≤ n + 1 → k ≤ ((List.range n).filter (reachK ps n k a)).length := by
    intro k
    induction k with
    | zero => intro _;exact Nat.zero_le _
    | succ k ih =>
      intro hk
      have h1 := ih (by omega)
      obtain ⟨c,hc,h2,h3⟩ := hgrow k (by omega)
      have h4 := filter_lt (p := reachK ps n k a) (q := reachK ps n (k + 1) a) (l := List.range n) (fun x _ hx => reach_mono hx 1) ⟨c,List.mem_range.2 hc,h2,h3⟩
      omega
  have h1 := hcount (n + 1) (Nat.le_refl _)
  have h2 := List.length_filter_le (reachK ps n (n + 1) a) (List.range n)
  rw [List.length_range] at h2
  omega
theorem reach_full {a c : Nat} (hc : c < n) (j : Nat) : reachK ps n (n + j) a c = reachK ps n n a c := by
  obtain ⟨k,hk,h⟩ := reach_stops (ps := ps) (n := n) a
  have h1 := reach_still h (n - k + j) c hc
  have h2 := reach_still h (n - k) c hc
  rw [show k + (n - k + j) = n + j by omega] at h1
  rw [show k + (n - k) = n by omega] at h2
  rw [h1,h2]
theorem reach_any {k a c : Nat} (hc : c < n) (h : reachK ps n k a c = true) : reachK ps n n a c = true := by
  have := reach_mono h n
  rwa [show k + n = n + k by omega,reach_full hc] at this
theorem reach_edge {a c : Nat} (hc : c < n) (h : edgeB ps a c = true) : reachK ps n n a c = true := by
  rw [← reach_full hc 1];exact reach_succ.2 (.inr (.inl h))
theorem reach_on {a b c : Nat} (hb : b < n) (hc : c < n) (h : reachK ps n n a b = true) (he : edgeB ps b c = true) : reachK ps n n a c = true := by
  rw [← reach_full hc 1];exact reach_succ.2 (.inr (.inr ⟨b,hb,h,he⟩))
theorem reach_trans {a b : Nat} (hb : b < n) (h : reachK ps n n a b = true) : ∀ {k c : Nat},c < n → reachK ps n k b c = true → reachK ps n n a c = true
  | 0,_,_,hk => by cases hk
  | k + 1,c,hc,hk => by
    rcases reach_succ.1 hk with h2 | h2 | ⟨d,hd,h2,h3⟩
    · exact reach_trans hb h hc h2
    · exact reach_on hb hc h h2
    · exact reach_on hd hc (reach_trans hb h hd h2) h3
theorem reach_one {a c : Nat} : reachK ps n 1 a c = edgeB ps a c := bool_iff (by
  constructor
  · intro h
    rcases reach_succ.1 h with h2 | h2 | ⟨d,hd,h2,h3⟩
    · cases h2
    · exact h2
    · cases h2
  · intro h;exact reach_succ.2 (.inr (.inl h)))
def cellG (m : List Bool) (a c : Nat) : Bool := m.getD (a * 8 + c) false
def setG (m : List Bool) (a c : Nat) (x : Bool) : List Bool := m.set (a * 8 + c) x
def step3 (m : List Bool) (a b c : Nat) : List Bool := setG m a c (cellG m a c || (cellG m a b && cellG m b c))
def closeC (n : Nat) (m : List Bool) (a b : Nat) : List Bool := (List.range n).foldl (fun m c => step3 m a b c) m
def closeB (n : Nat) (m : List Bool) (a : Nat) : List Bool := (List.range n).foldl (fun m b => closeC n m a b) m
def closeA (n : Nat) (m : List Bool) : List Bool := (List.range n).foldl (fun m a => closeB n m a) m
def closeN (n : Nat) : Nat → List Bool → List Bool
  | 0,m => m
  | k + 1,m => closeA n (closeN n k m)
def table0 : List Bool := List.replicate 64 false
def tableE (ps : List (Nat × Nat)) : List Bool := ps.foldl (fun m p => setG m p.1 p.2 true) table0
theorem range_foldl {α : Type} {f : α → Nat → α} {z : α} {k : Nat} : (List.range (k + 1)).foldl f z = f ((List.range k).foldl f z) k := by rw [List.range_succ,List.foldl_append];rfl
theorem setG_len (m : List Bool) (a c : Nat) (x : Bool) : (setG m a c x).length = m.length := List.length_set
theorem setG_get {m : List Bool} (hm : m.length = 64) {a c a' c' : Nat} {x : Bool} (ha : a < 8) (hc : c < 8) (hc' : c' < 8) : cellG (setG m a c x) a' c' = if a = a' ∧ c = c' then x else cellG m a' c' := by
  unfold cellG setG
  rw [List.getD_eq_getElem?_getD,List.getD_eq_getElem?_getD,List.getElem?_set]
  by_cases e : a * 8 + c = a' * 8 + c'
  · have e1 : a = a' := by omega
    have e2 : c = c' := by omega
    rw [if_pos e,if_pos (by omega),if_pos ⟨e1,e2⟩]
    rfl
  · rw [if_neg e,if_neg (fun h => e (by rw [h.1,h.2]))]
def LeG (m m' : List Bool) : Prop := m.length = 64 → m'.length = 64 ∧ ∀ a c,c < 8 → cellG m a c = true → cellG m' a c = true
theorem LeG.refl (m : List Bool) : LeG m m := fun h => ⟨h,fun _ _ _ h => h⟩
theorem LeG.trans {m m' m'' : List Bool} (h : LeG m m') (g : LeG m' m'') : LeG m m'' := fun hm => ⟨(g (h hm).1).1,fun a c hc hx => (g (h hm).1).2 a c hc ((h hm).2 a c hc hx)⟩
theorem foldl_le' {α : Type} {f : List Bool → α → List Bool} : ∀ (l : List α) (m : List Bool),(∀ m,∀ x ∈ l,LeG m (f m x)) → LeG m (l.foldl f m)
  | [],m,_ => LeG.refl m
  | x :: l,m,hf => by rw [List.foldl_cons];exact (hf m x (by simp)).trans (foldl_le' l _ fun m y hy => hf m y (by simp [hy]))
theorem foldl_hit {α : Type} {f : List Bool → α → List Bool} {Q : List Bool → Prop} {x : α} : ∀ (l : List α) (m : List Bool),(∀ m,∀ y ∈ l,LeG m (f m y)) → x ∈ l → (∀ m',LeG m m' → Q (f m' x)) → (∀ m' m'',LeG m m' → Q m' → LeG m' m'' → Q m'') → Q (l.foldl f m)
  | [],_,_,hx,_,_ => by cases hx
  | y :: l,m,hf,hx,h1,h2 => by
    rw [List.foldl_cons]
    rcases List.mem_cons.1 hx with rfl | hx
    · exact h2 _ _ (hf m x (by simp)) (h1 m (LeG.refl m)) (foldl_le' l _ fun m y hy => hf m y (by simp [hy]))
    · have hy := hf m y (by simp)
      exact foldl_hit l _ (fun m y hy => hf m y (by simp [hy])) hx (fun m' hm' => h1 m' (hy.trans hm')) (fun m' m'' g1 g2 g3 => h2 m' m'' (hy.trans g1) g2 g3)
theorem step3_le {m : List Bool} {a b c : Nat} (ha : a < 8) (hc : c < 8) : LeG m (step3 m a b c) := fun hm => ⟨by unfold step3;rw [setG_len,hm],fun a' c' hc' hx => by
  unfold step3
  rw [setG_get hm ha hc hc']
  split
  · rename_i e;rw [e.1,e.2,hx];rfl
  · exact hx⟩
theorem closeC_le (hn : n ≤ 8) {m : List Bool} {a b : Nat} (ha : a < 8) : LeG m (closeC n m a b) := foldl_le' _ m fun _ c hc => step3_le ha (by have := List.mem_range.1 hc;omega)
theorem closeB_le (hn : n ≤ 8) {m : List Bool} {a : Nat} (ha : a < 8) : LeG m (closeB n m a) := foldl_le' _ m fun _ _ _ => closeC_le hn ha
theorem closeA_le (hn : n ≤ 8) {m : List Bool} : LeG m (closeA n m) := foldl_le' _ m fun _ a ha => closeB_le hn (by have := List.mem_range.1 ha;omega)
theorem closeA_hit (hn : n ≤ 8) {m : List Bool} (hm : m.length = 64) {a b c : Nat} (ha : a < n) (hb : b < n) (hc : c < n) (h1 : cellG m a b = true) (h2 : cellG m b c = true) : cellG (closeA n m) a c = true := by
  have key : ∀ m',LeG m m' → cellG (step3 m' a b c) a c = true := fun m' hle => by
    obtain ⟨g1,g2⟩ := hle hm
    unfold step3
    rw [setG_get g1 (by omega) (by omega) (by omega),if_pos ⟨rfl,rfl⟩,g2 a b (by omega) h1,g2 b c (by omega) h2]
    simp
  have up : ∀ m' m'',LeG m m' → cellG m' a c = true → LeG m' m'' → cellG m'' a c = true := fun m' m'' g1 g2 g3 => (g3 (g1 hm).1).2 a c (by omega) g2
  refine foldl_hit (Q := fun m => cellG m a c = true) (x := a) _ m (fun _ x hx => closeB_le hn (by have := List.mem_range.1 hx;omega)) (List.mem_range.2 ha) (fun m1 l1 => ?_) up
  refine foldl_hit (Q := fun m => cellG m a c = true) (x := b) _ m1 (fun _ _ _ => closeC_le hn (by omega)) (List.mem_range.2 hb) (fun m2 l2 => ?_) (fun m' m'' g1 => up m' m'' (l1.trans g1))
  exact foldl_hit (Q := fun m => cellG m a c = true) (x := c) _ m2 (fun _ x hx => step3_le (by omega) (by have := List.mem_range.1 hx;omega)) (List.mem_range.2 hc) (fun m3 l3 => key m3 ((l1.trans l2).trans l3)) (fun m' m'' g1 => up m' m'' ((l1.trans l2).trans g1))
def SoundG (ps : List (Nat × Nat)) (n : Nat) (m : List Bool) : Prop := m.length = 64 ∧ ∀ a c,a < n → c < n → cellG m a c = true → reachK ps n n a c = true
theorem foldl_inv {α β : Type} {f : β → α → β} {P : β → Prop} : ∀ (l : List α) (m : β),P m → (∀ m,P m → ∀ x ∈ l,P (f m x)) → P (l.foldl f m)
  | [],_,h,_ => h
  | x :: l,m,h,hf => by rw [List.foldl_cons];exact foldl_inv l _ (hf m h x (by simp)) fun m hm y hy => hf m hm y (by simp [hy])
theorem step3_sound (hn : n ≤ 8) {m : List Bool} (h : SoundG ps n m) {a b c : Nat} (ha : a < n) (hb : b < n) (hc : c < n) : SoundG ps n (step3 m a b c) := by
  refine ⟨by unfold step3;rw [setG_len];exact h.1,fun a' c' ha' hc' hx => ?_⟩
  unfold step3 at hx
  rw [setG_get h.1 (by omega) (by omega) (by omega)] at hx
  split at hx
  · rename_i e
    rw [← e.1,← e.2]
    rw [Bool.or_eq_true,Bool.and_eq_true] at hx
    rcases hx with h1 | ⟨h1,h2⟩
    · exact h.2 a c ha hc h1
    · exact reach_trans hb (h.2 a b ha hb h1) hc (h.2 b c hb hc h2)
  · exact h.2 a' c' ha' hc' hx
theorem closeA_sound (hn : n ≤ 8) {m : List Bool} (h : SoundG ps n m) : SoundG ps n (closeA n m) :=
  foldl_inv _ _ h fun _ h1 _a ha => foldl_inv _ _ h1 fun _ h2 _b hb => foldl_inv _ _ h2 fun _ h3 _c hc => step3_sound hn h3 (List.mem_range.1 ha) (List.mem_range.1 hb) (List.mem_range.1 hc)
theorem tableE_spec {ps : List (Nat × Nat)} (hp : ∀ p ∈ ps,p.1 < 8 ∧ p.2 < 8) : (tableE ps).length = 64 ∧ ∀ a c,c < 8 → cellG (tableE ps) a c = edgeB ps a c := by
  have main : ∀ (l : List (Nat × Nat)) (m : List Bool),(∀ p ∈ l,p.1 < 8 ∧ p.2 < 8) → m.length = 64 → (l.foldl (fun m p => setG m p.1 p.2 true) m).length = 64 ∧ ∀ a c,c < 8 → cellG (l.foldl (fun m p => setG m p.1 p.2 true) m) a c = (cellG m a c || edgeB l a c) := by
    intro l
    induction l with
    | nil => intro m _ hm;exact ⟨hm,fun a c _ => by simp [edgeB]⟩
    | cons p l ih =>
      intro m hp hm
      obtain ⟨p1,p2⟩ := hp p (by simp)
      obtain ⟨h1,h2⟩ := ih (setG m p.1 p.2 true) (fun q hq => hp q (by simp [hq])) (by rw [setG_len,hm])
      refine ⟨h1,fun a c hc => ?_⟩
      rw [List.foldl_cons,h2 a c hc,setG_get hm p1 p2 hc]
      unfold edgeB
      by_cases e : p.1 = a ∧ p.2 = c
      · have e' : p = (a,c) := Prod.ext e.1 e.2
        rw [if_pos e,e']
        simp
      · have e' : ¬ (a,c) = p := fun h => e (by rw [← h];exact ⟨rfl,rfl⟩)
        rw [if_neg e]
        simp [e']
  obtain ⟨h1,h2⟩ := main ps table0 hp (by simp [table0])
  refine ⟨h1,fun a c hc => ?_⟩
  show cellG (ps.foldl (fun m p => setG m p.1 p.2 true) table0) a c = _
  rw [h2 a c hc]
  have h0 : cellG table0 a c = false := by
    unfold cellG table0
    rw [List.getD_eq_getElem?_getD,List.getElem?_replicate]
    split <;> rfl
  rw [h0,Bool.false_or]
theorem closeN_spec (hn : n ≤ 8) {ps : List (Nat × Nat)} (hp : ∀ p ∈ ps,p.1 < n ∧ p.2 < n) : ∀ k,SoundG ps n (closeN n k (tableE ps)) ∧ ∀ a c,a < n → c < n → reachK ps n (k + 1) a c = true → cellG (closeN n k (tableE ps)) a c = true
  | 0 => by
    obtain ⟨h1,h2⟩ := tableE_spec (ps := ps) fun p hp' => ⟨by have := (hp p hp').1;omega,by have := (hp p hp').2;omega⟩
    refine ⟨⟨h1,fun a c _ hc hx => ?_⟩,fun a c _ hc hx => ?_⟩
    · have hx' : cellG (tableE ps) a c = true := hx
      rw [h2 a c (by omega)] at hx'
      exact reach_edge hc hx'
    · show cellG (tableE ps) a c = true
      rw [h2 a c (by omega),← reach_one (n := n)]
      exact hx
  | k + 1 => by
    obtain ⟨h1,h2⟩ := closeN_spec hn hp k
    refine ⟨closeA_sound hn h1,fun a c ha hc hx => ?_⟩
    show cellG (closeA n (closeN n k (tableE ps))) a c = true
    have he : ∀ a c,a < n → c < n → edgeB ps a c = true → cellG (closeN n k (tableE ps)) a c = true := fun a c ha hc he => h2 a c ha hc (reach_succ.2 (.inr (.inl he)))
    rcases reach_succ.1 hx with h3 | h3 | ⟨b,hb,h3,h4⟩
    · exact ((closeA_le hn) h1.1).2 a c (by omega) (h2 a c ha hc h3)
    · exact ((closeA_le hn) h1.1).2 a c (by omega) (he a c ha hc h3)
    · exact closeA_hit hn h1.1 ha hb hc (h2 a b ha hb h3) (he b c hb hc h4)
theorem table_is (hn : n ≤ 8) {ps : List (Nat × Nat)} (hp : ∀ p ∈ ps,p.1 < n ∧ p.2 < n) {a c : Nat} (ha : a < n) (hc : c < n) : cellG (closeN n n (tableE ps)) a c = reachK ps n n a c := bool_iff (by
  obtain ⟨h1,h2⟩ := closeN_spec hn hp n
  exact ⟨h1.2 a c ha hc,fun h => h2 a c ha hc (reach_mono h 1)⟩)
theorem closeN_len (hn : n ≤ 8) {ps : List (Nat × Nat)} (hp : ∀ p ∈ ps,p.1 < n ∧ p.2 < n) (k : Nat) : (closeN n k (tableE ps)).length = 64 := (closeN_spec hn hp k).1.1
end Go.Proofs.YtiiicochdidolaaGreat
namespace Go.Proofs.YtiiicochdidolaaGreat
inductive PProof where
  | mk (fact : PFact) (rule : Int) (kids : List PProof)
def PProof.fact : PProof → PFact := fun x => match x with | .mk f _ _ => f
def PProof.rule : PProof → Int := fun x => match x with | .mk _ r _ => r
def PProof.kids : PProof → List PProof := fun x => match x with | .mk _ _ k => k
theorem fillArgs_congr {l m : Binds} : ∀ {ts : List PTerm},(∀ t ∈ ts,t.var = true → getB t.name l = getB t.name m) → fillArgs l ts = fillArgs m ts
  | [],_ => rfl
  | t :: ts,h => by
    have h1 : valT l t = valT m t := by
      unfold valT
      by_cases ht : t.var = true
      · rw [if_pos ht,if_pos ht,h t (by simp) ht]
      · rw [if_neg ht,if_neg ht]
    rw [fillArgs,fillArgs,h1,fillArgs_congr (ts := ts) fun t ht => h t (by simp [ht])]
theorem fillP_congr {l m : Binds} {a : PAtom} (h : ∀ v ∈ varsOf a,getB v l = getB v m) : fillP a l = fillP a m := by
  unfold fillP
  rw [fillArgs_congr fun t ht hv => h t.name ((mem_varsOf t.name a).2 ⟨t,ht,hv,rfl⟩)]
theorem fillP_vars {l : Binds} {a : PAtom} {f : PFact} (h : fillP a l = some f) : ∀ v ∈ varsOf a,v ∈ Vs l := fun v hv => by
  obtain ⟨t,ht,hvar,rfl⟩ := (mem_varsOf v a).1 hv
  exact fillArgs_vars (fillP_name h).2 t ht hvar
theorem nd_filter {l : Binds} (h : Nd l) (q : PBind → Bool) : Nd (l.filter q) := by unfold Nd Vs at *;exact (List.Sublist.map _ List.filter_sublist).nodup h
theorem getB_filter {l : Binds} (h : Nd l) {q : Str → Bool} {v : Str} (hv : q v = true) : getB v (l.filter fun z => q z.var) = getB v l := by
  cases hg : getB v l with
  | none =>
    rw [getB_none] at hg ⊢
    intro hm
    obtain ⟨z,hz,rfl⟩ := List.mem_map.1 hm
    exact hg (List.mem_map.2 ⟨z,(List.mem_filter.1 hz).1,rfl⟩)
  | some n => exact getB_of_mem (nd_filter h _) (List.mem_filter.2 ⟨getB_mem hg,hv⟩)
theorem derives_of {r : PRule} {O : List PFact} {x : PFact} {b : Binds} (hR : ruleBad r = 0) (hd : Nd b) (hp : ∀ a ∈ r.body,∃ f,fillP a b = some f ∧ memF f O = !a.neg) (hh : fillP r.head b = some x) : Derives r O x := by
  let q : Str → Bool := fun v => r.body.any fun a => decide (v ∈ varsOf a)
  have hq : ∀ v,q v = true ↔ ∃ a ∈ r.body,v ∈ varsOf a := fun v => by simp [q]
  have hb : ∀ a ∈ r.body,fillP a (ofC cmpBind (b.filter fun z => q z.var)) = fillP a b := fun a ha => fillP_congr fun v hv => by
    rw [getB_ofC (nd_filter hd _),getB_filter hd ((hq v).2 ⟨a,ha,hv⟩)]
  refine ⟨ofC cmpBind (b.filter fun z => q z.var),⟨ofC_rising cmpBind3 _,nd_ofC (nd_filter hd _),fun v => ?_,fun j a ha => ?_⟩,?_⟩
  · rw [vs_ofC]
    constructor
    · intro hm
      obtain ⟨z,hz,rfl⟩ := List.mem_map.1 hm
      exact (hq _).1 (List.mem_filter.1 hz).2
    · rintro ⟨a,ha,hv⟩
      obtain ⟨f,hf,-⟩ := hp a ha
      obtain ⟨z,hz,rfl⟩ := List.mem_map.1 (fillP_vars hf v hv)
      exact List.mem_map.2 ⟨z,List.mem_filter.2 ⟨hz,(hq _).2 ⟨a,ha,hv⟩⟩,rfl⟩
  · obtain ⟨f,h1,h2⟩ := hp a (List.mem_of_getElem? ha)
    exact ⟨f,by rw [hb a (List.mem_of_getElem? ha)];exact h1,h2⟩
  · rw [← hh]
    exact fillP_congr fun v hv => by
      obtain ⟨a,ha,hva⟩ := (ruleBad_zero hR).2.2.2 v hv
      rw [getB_ofC (nd_filter hd _),getB_filter hd ((hq v).2 ⟨a,ha,hva⟩)]
end Go.Proofs.YtiiicochdidolaaGreat
namespace Go.Proofs.YtiiicochdidolaaGreat
def roadF (a b : Nat) : PFact := ⟨xroad,[tn a,tn b]⟩
def wayF (a b : Nat) : PFact := ⟨xway,[tn a,tn b]⟩
def cutF (a b : Nat) : PFact := ⟨xcut,[tn a,tn b]⟩
def townF (a : Nat) : PFact := ⟨xtown,[tn a]⟩
def netL (n : Nat) (ps : List (Nat × Nat)) : List PFact := ofF (ps.map (fun p => roadF p.1 p.2) ++ (List.range n).map townF)
def waysL (N : Nat) (ps : List (Nat × Nat)) : List PFact := (List.range N).flatMap fun a => ((List.range N).filter fun c => reachK ps N N a c).map (wayF a)
def cutsL (n : Nat) : List PFact := (List.range n).flatMap fun a => (List.range n).map (cutF a)
def netU (n N : Nat) (ps : List (Nat × Nat)) : List PFact := netL n ps ++ (waysL N ps ++ cutsL n)
structure NetOk (n N : Nat) (ps : List (Nat × Nat)) : Prop where
  towns : n ≤ 6
  sub : n ≤ N
  nodes : N ≤ 8
  inside : ∀ p ∈ ps,p.1 < N ∧ p.2 < N
  few : ps.length ≤ 13
theorem tn_all : ((List.range 8).all fun a => (List.range 8).all fun b => decide (tn a = tn b → a = b)) = true := by decide +kernel
theorem tn_inj {a b : Nat} (ha : a < 8) (hb : b < 8) (h : tn a = tn b) : a = b := of_decide_eq_true (List.all_eq_true.1 (List.all_eq_true.1 tn_all a (List.mem_range.2 ha)) b (List.mem_range.2 hb)) h
theorem tn_named : ((List.range 8).all fun a => named (tn a)) = true := by decide +kernel
theorem named_tn {a : Nat} (ha : a < 8) : named (tn a) = true := List.all_eq_true.1 tn_named a (List.mem_range.2 ha)
theorem names_ne : xroad ≠ xway ∧ xroad ≠ xcut ∧ xroad ≠ xtown ∧ xway ≠ xcut ∧ xway ≠ xtown ∧ xcut ≠ xtown := by decide +kernel
theorem vars_ne : xX ≠ xY ∧ xX ≠ xZ ∧ xY ≠ xZ := by decide +kernel
def rR0 : PRule := ⟨⟨false,xway,[⟨true,xX⟩,⟨true,xY⟩]⟩,[⟨false,xroad,[⟨true,xX⟩,⟨true,xY⟩]⟩]⟩
def rR1 : PRule := ⟨⟨false,xway,[⟨true,xX⟩,⟨true,xZ⟩]⟩,[⟨false,xway,[⟨true,xX⟩,⟨true,xY⟩]⟩,⟨false,xroad,[⟨true,xY⟩,⟨true,xZ⟩]⟩]⟩
def rR2 : PRule := ⟨⟨false,xcut,[⟨true,xX⟩,⟨true,xY⟩]⟩,[⟨false,xtown,[⟨true,xX⟩]⟩,⟨false,xtown,[⟨true,xY⟩]⟩,⟨true,xway,[⟨true,xX⟩,⟨true,xY⟩]⟩]⟩
theorem roads_is : roadsP = [rR0,rR1,rR2] := rfl
theorem fill2 {ng : Bool} {nm v1 v2 : Str} {m : Binds} {f : PFact} : fillP ⟨ng,nm,[⟨true,v1⟩,⟨true,v2⟩]⟩ m = some f ↔ ∃ u v,getB v1 m = some u ∧ getB v2 m = some v ∧ f = ⟨nm,[u,v]⟩ := by
  unfold fillP fillArgs valT
  simp only [if_true]
  cases getB v1 m with
  | none => simp
  | some u =>
    unfold fillArgs valT
    simp only [if_true]
    cases getB v2 m with
    | none => simp
    | some v => simp [fillArgs,eq_comm]
theorem fill1 {ng : Bool} {nm v1 : Str} {m : Binds} {f : PFact} : fillP ⟨ng,nm,[⟨true,v1⟩]⟩ m = some f ↔ ∃ u,getB v1 m = some u ∧ f = ⟨nm,[u]⟩ := by
  unfold fillP fillArgs valT
  simp only [if_true]
  cases getB v1 m with
  | none => simp
  | some u => simp [fillArgs,eq_comm]
theorem roads_rules : ∀ r ∈ roadsP,ruleBad r = 0 ∧ posN r.body ≤ 2 := fun r hr => of_decide_eq_true (List.all_eq_true.1 (show roadsP.all (fun r => decide (ruleBad r = 0 ∧ posN r.body ≤ 2)) = true by decide +kernel) r hr)
theorem nd2 (u v : Str) : Nd [⟨xX,u⟩,⟨xY,v⟩] := by unfold Nd Vs;simp [vars_ne.1]
theorem nd3 (u v z : Str) : Nd [⟨xX,u⟩,⟨xY,v⟩,⟨xZ,z⟩] := by unfold Nd Vs;simp [vars_ne.1,vars_ne.2.1,vars_ne.2.2]
theorem der0 {O : List PFact} {x : PFact} : Derives rR0 O x ↔ ∃ u v,⟨xroad,[u,v]⟩ ∈ O ∧ x = ⟨xway,[u,v]⟩ := by
  constructor
  · rintro ⟨m,⟨-,-,-,t4⟩,hf⟩
    obtain ⟨f,h1,h2⟩ := t4 0 _ rfl
    obtain ⟨u,v,g1,g2,rfl⟩ := fill2.1 h1
    obtain ⟨u',v',k1,k2,rfl⟩ := fill2.1 hf
    rw [g1] at k1;rw [g2] at k2
    obtain rfl := Option.some.inj k1
    obtain rfl := Option.some.inj k2
    exact ⟨u,v,(memF_iff _ _).1 h2,rfl⟩
  · rintro ⟨u,v,h,rfl⟩
    have e1 : getB xX [⟨xX,u⟩,⟨xY,v⟩] = some u := by simp [getB]
    have e2 : getB xY [⟨xX,u⟩,⟨xY,v⟩] = some v := by simp [getB,vars_ne.1]
    refine derives_of (b := [⟨xX,u⟩,⟨xY,v⟩]) (roads_rules rR0 (by rw [roads_is];simp)).1 (nd2 u v) (fun a ha => ?_) (fill2.2 ⟨u,v,e1,e2,rfl⟩)
    obtain rfl := List.mem_singleton.1 ha
    exact ⟨_,fill2.2 ⟨u,v,e1,e2,rfl⟩,(memF_iff _ _).2 h⟩
theorem der1 {O : List PFact} {x : PFact} : Derives rR1 O x ↔ ∃ u v z,⟨xway,[u,v]⟩ ∈ O ∧ ⟨xroad,[v,z]⟩ ∈ O ∧ x = ⟨xway,[u,z]⟩ := by
  constructor
  · rintro ⟨m,⟨-,-,-,t4⟩,hf⟩
    obtain ⟨f,h1,h2⟩ := t4 0 _ rfl
    obtain ⟨g,h3,h4⟩ := t4 1 _ rfl
    obtain ⟨u,v,g1,g2,rfl⟩ := fill2.1 h1
    obtain ⟨v',z,g3,g4,rfl⟩ := fill2.1 h3
    obtain ⟨u',z',k1,k2,rfl⟩ := fill2.1 hf
    rw [g1] at k1;rw [g4] at k2;rw [g2] at g3
    obtain rfl := Option.some.inj k1
    obtain rfl := Option.some.inj k2
    obtain rfl := Option.some.inj g3
    exact ⟨u,v,z,(memF_iff _ _).1 h2,(memF_iff _ _).1 h4,rfl⟩
  · rintro ⟨u,v,z,h,h',rfl⟩
    have e1 : getB xX [⟨xX,u⟩,⟨xY,v⟩,⟨xZ,z⟩] = some u := by simp [getB]
    have e2 : getB xY [⟨xX,u⟩,⟨xY,v⟩,⟨xZ,z⟩] = some v := by simp [getB,vars_ne.1]
    have e3 : getB xZ [⟨xX,u⟩,⟨xY,v⟩,⟨xZ,z⟩] = some z := by simp [getB,vars_ne.2.1,vars_ne.2.2]
    refine derives_of (b := [⟨xX,u⟩,⟨xY,v⟩,⟨xZ,z⟩]) (roads_rules rR1 (by rw [roads_is];simp)).1 (nd3 u v z) (fun a ha => ?_) (fill2.2 ⟨u,z,e1,e3,rfl⟩)
    rcases List.mem_cons.1 ha with rfl | ha
    · exact ⟨_,fill2.2 ⟨u,v,e1,e2,rfl⟩,(memF_iff _ _).2 h⟩
    · obtain rfl := List.mem_singleton.1 ha
      exact ⟨_,fill2.2 ⟨v,z,e2,e3,rfl⟩,(memF_iff _ _).2 h'⟩
theorem der2 {O : List PFact} {x : PFact} : Derives rR2 O x ↔ ∃ u v,⟨xtown,[u]⟩ ∈ O ∧ ⟨xtown,[v]⟩ ∈ O ∧ ⟨xway,[u,v]⟩ ∉ O ∧ x = ⟨xcut,[u,v]⟩ := by
  have hnot : ∀ y : PFact,memF y O = false ↔ y ∉ O := fun y => by
    rw [← memF_iff y O];cases memF y O <;> simp
  constructor
  · rintro ⟨m,⟨-,-,-,t4⟩,hf⟩
    obtain ⟨f,h1,h2⟩ := t4 0 _ rfl
    obtain ⟨g,h3,h4⟩ := t4 1 _ rfl
    obtain ⟨k,h5,h6⟩ := t4 2 _ rfl
    obtain ⟨u,g1,rfl⟩ := fill1.1 h1
    obtain ⟨v,g2,rfl⟩ := fill1.1 h3
    obtain ⟨u',v',g3,g4,rfl⟩ := fill2.1 h5
    obtain ⟨u2,v2,k1,k2,rfl⟩ := fill2.1 hf
    rw [g1] at k1 g3;rw [g2] at k2 g4
    obtain rfl := Option.some.inj k1
    obtain rfl := Option.some.inj k2
    obtain rfl := Option.some.inj g3
    obtain rfl := Option.some.inj g4
    exact ⟨u,v,(memF_iff _ _).1 h2,(memF_iff _ _).1 h4,(hnot _).1 h6,rfl⟩
  · rintro ⟨u,v,h,h',hn,rfl⟩
    have e1 : getB xX [⟨xX,u⟩,⟨xY,v⟩] = some u := by simp [getB]
    have e2 : getB xY [⟨xX,u⟩,⟨xY,v⟩] = some v := by simp [getB,vars_ne.1]
    refine derives_of (b := [⟨xX,u⟩,⟨xY,v⟩]) (roads_rules rR2 (by rw [roads_is];simp)).1 (nd2 u v) (fun a ha => ?_) (fill2.2 ⟨u,v,e1,e2,rfl⟩)
    rcases List.mem_cons.1 ha with rfl | ha
    · exact ⟨_,fill1.2 ⟨u,e1,rfl⟩,(memF_iff _ _).2 h⟩
    rcases List.mem_cons.1 ha with rfl | ha
    · exact ⟨_,fill1.2 ⟨v,e2,rfl⟩,(memF_iff _ _).2 h'⟩
    · obtain rfl := List.mem_singleton.1 ha
      exact ⟨_,fill2.2 ⟨u,v,e1,e2,rfl⟩,(hnot _).2 hn⟩
section
variable {n N : Nat} {ps : List (Nat × Nat)}
theorem mem_netL {x : PFact} : x ∈ netL n ps ↔ (∃ p ∈ ps,x = roadF p.1 p.2) ∨ ∃ a,a < n ∧ x = townF a := by
  unfold netL
  rw [mem_ofF,List.mem_append,List.mem_map,List.mem_map]
  refine or_congr ?_ ?_
  · exact ⟨fun ⟨p,h1,h2⟩ => ⟨p,h1,h2.symm⟩,fun ⟨p,h1,h2⟩ => ⟨p,h1,h2.symm⟩⟩
  · exact ⟨fun ⟨a,h1,h2⟩ => ⟨a,List.mem_range.1 h1,h2.symm⟩,fun ⟨a,h1,h2⟩ => ⟨a,List.mem_range.2 h1,h2.symm⟩⟩
theorem mem_ways {x : PFact} : x ∈ waysL N ps ↔ ∃ a c,a < N ∧ c < N ∧ reachK ps N N a c = true ∧ x = wayF a c := by
  unfold waysL
  simp only [List.mem_flatMap,List.mem_map,List.mem_filter,List.mem_range]
  exact ⟨fun ⟨a,h1,c,⟨h2,h3⟩,h4⟩ => ⟨a,c,h1,h2,h3,h4.symm⟩,fun ⟨a,c,h1,h2,h3,h4⟩ => ⟨a,h1,c,⟨h2,h3⟩,h4.symm⟩⟩
theorem mem_cuts {x : PFact} : x ∈ cutsL n ↔ ∃ a c,a < n ∧ c < n ∧ x = cutF a c := by
  unfold cutsL
  simp only [List.mem_flatMap,List.mem_map,List.mem_range]
  exact ⟨fun ⟨a,h1,c,h2,h4⟩ => ⟨a,c,h1,h2,h4.symm⟩,fun ⟨a,c,h1,h2,h4⟩ => ⟨a,h1,c,h2,h4.symm⟩⟩
theorem mem_netU {x : PFact} : x ∈ netU n N ps ↔ (∃ p ∈ ps,x = roadF p.1 p.2) ∨ (∃ a,a < n ∧ x = townF a) ∨ (∃ a c,a < N ∧ c < N ∧ reachK ps N N a c = true ∧ x = wayF a c) ∨ ∃ a c,a < n ∧ c < n ∧ x = cutF a c := by
  unfold netU
  rw [List.mem_append,List.mem_append,mem_netL,mem_ways,mem_cuts,or_assoc]
theorem flat_len {α β : Type} {f : α → List β} {K : Nat} : ∀ {l : List α},(∀ x ∈ l,(f x).length ≤ K) → (l.flatMap f).length ≤ l.length * K
  | [],_ => by simp
  | x :: l,h => by
    have h1 := flat_len (l := l) fun y hy => h y (by simp [hy])
    have h2 := h x (by simp)
    rw [List.flatMap_cons,List.length_append,List.length_cons,Nat.add_mul,Nat.one_mul]
    omega
theorem netL_len (h : NetOk n N ps) : (netL n ps).length ≤ 19 := by
  have h1 := nodup_le (nodup_rising (ofF_rising (ps.map (fun p => roadF p.1 p.2) ++ (List.range n).map townF))) (m := ps.map (fun p => roadF p.1 p.2) ++ (List.range n).map townF) fun x hx => (mem_ofF x _).1 hx
  rw [List.length_append,List.length_map,List.length_map,List.length_range] at h1
  have := h.towns
  have := h.few
  unfold netL
  omega
theorem mul_le8 {a b : Nat} (ha : a ≤ 8) (hb : b ≤ 8) : a * b ≤ 64 := Nat.mul_le_mul ha hb
theorem mul_le6 {a b : Nat} (ha : a ≤ 6) (hb : b ≤ 6) : a * b ≤ 36 := Nat.mul_le_mul ha hb
theorem netU_len (h : NetOk n N ps) : (netU n N ps).length ≤ 140 := by
  have h1 := netL_len h
  have h2 : (waysL N ps).length ≤ (List.range N).length * N := flat_len fun a _ => by
    rw [List.length_map]
    have := List.length_filter_le (fun c => reachK ps N N a c) (List.range N)
    rwa [List.length_range] at this
  have h3 : (cutsL n).length ≤ (List.range n).length * n := flat_len fun a _ => by rw [List.length_map,List.length_range];exact Nat.le_refl _
  rw [List.length_range] at h2 h3
  have h4 := mul_le8 h.nodes h.nodes
  have h5 := mul_le6 h.towns h.towns
  unfold netU
  rw [List.length_append,List.length_append]
  omega
theorem wrong_two {nm : Str} (hn : named nm = true) {a b : Nat} (ha : a < 8) (hb : b < 8) : wrongF ⟨nm,[tn a,tn b]⟩ = 0 := wrongF_zero.2 ⟨hn,by show 2 ≤ 4;decide,fun x hx => by
  rcases List.mem_cons.1 hx with rfl | hx
  · exact named_tn ha
  · obtain rfl := List.mem_singleton.1 hx;exact named_tn hb⟩
theorem wrong_town {a : Nat} (ha : a < 8) : wrongF (townF a) = 0 := wrongF_zero.2 ⟨(by decide +kernel : named xtown = true),by show 1 ≤ 4;decide,fun x hx => by obtain rfl := List.mem_singleton.1 hx;exact named_tn ha⟩
theorem netU_fine (h : NetOk n N ps) : ∀ x ∈ netU n N ps,wrongF x = 0 := fun x hx => by
  have h1 := h.nodes
  have h2 := h.sub
  rcases mem_netU.1 hx with ⟨p,hp,rfl⟩ | ⟨a,ha,rfl⟩ | ⟨a,c,ha,hc,-,rfl⟩ | ⟨a,c,ha,hc,rfl⟩
  · obtain ⟨k1,k2⟩ := h.inside p hp
    exact wrong_two (by decide +kernel) (by omega) (by omega)
  · exact wrong_town (by omega)
  · exact wrong_two (by decide +kernel) (by omega) (by omega)
  · exact wrong_two (by decide +kernel) (by omega) (by omega)
theorem fact_eq {a b : Str} {l m : List Str} (h : (⟨a,l⟩ : PFact) = ⟨b,m⟩) : a = b ∧ l = m := by injection h with h1 h2;exact ⟨h1,h2⟩
theorem two_eq {a b c d : Str} (h : [a,b] = [c,d]) : a = c ∧ b = d := by injection h with h1 h2;injection h2 with h2 _;exact ⟨h1,h2⟩
theorem road_in {u v : Str} (h : (⟨xroad,[u,v]⟩ : PFact) ∈ netU n N ps) : ∃ p ∈ ps,u = tn p.1 ∧ v = tn p.2 := by
  rcases mem_netU.1 h with ⟨p,hp,e⟩ | ⟨a,ha,e⟩ | ⟨a,c,ha,hc,-,e⟩ | ⟨a,c,ha,hc,e⟩
  · exact ⟨p,hp,two_eq (fact_eq e).2⟩
  · exact absurd (fact_eq e).1 names_ne.2.2.1
  · exact absurd (fact_eq e).1 names_ne.1
  · exact absurd (fact_eq e).1 names_ne.2.1
theorem way_in {u v : Str} (h : (⟨xway,[u,v]⟩ : PFact) ∈ netU n N ps) : ∃ a c,a < N ∧ c < N ∧ reachK ps N N a c = true ∧ u = tn a ∧ v = tn c := by
  rcases mem_netU.1 h with ⟨p,hp,e⟩ | ⟨a,ha,e⟩ | ⟨a,c,ha,hc,hr,e⟩ | ⟨a,c,ha,hc,e⟩
  · exact absurd (fact_eq e).1.symm names_ne.1
  · exact absurd (fact_eq e).1 names_ne.2.2.2.2.1
  · exact ⟨a,c,ha,hc,hr,two_eq (fact_eq e).2⟩
  · exact absurd (fact_eq e).1 names_ne.2.2.2.1
theorem town_in {u : Str} (h : (⟨xtown,[u]⟩ : PFact) ∈ netU n N ps) : ∃ a,a < n ∧ u = tn a := by
  rcases mem_netU.1 h with ⟨p,hp,e⟩ | ⟨a,ha,e⟩ | ⟨a,c,ha,hc,hr,e⟩ | ⟨a,c,ha,hc,e⟩
  · exact absurd (fact_eq e).1.symm names_ne.2.2.1
  · exact ⟨a,ha,by have := (fact_eq e).2;injection this⟩
  · exact absurd (fact_eq e).1.symm names_ne.2.2.2.2.1
  · exact absurd (fact_eq e).1.symm names_ne.2.2.2.2.2
theorem net_fit (h : NetOk n N ps) : FitU roadsP (netU n N ps) := ⟨roads_rules,netU_len h,netU_fine h,fun r hr O x hO hd => by
  have h8 := h.nodes
  rw [roads_is] at hr
  rcases List.mem_cons.1 hr with rfl | hr
  · obtain ⟨u,v,h1,rfl⟩ := der0.1 hd
    obtain ⟨p,hp,rfl,rfl⟩ := road_in (hO _ h1)
    obtain ⟨k1,k2⟩ := h.inside p hp
    exact mem_netU.2 (.inr (.inr (.inl ⟨p.1,p.2,k1,k2,reach_edge k2 (by unfold edgeB;simpa using hp),rfl⟩)))
  rcases List.mem_cons.1 hr with rfl | hr
  · obtain ⟨u,v,z,h1,h2,rfl⟩ := der1.1 hd
    obtain ⟨a,c,ha,hc,hrc,rfl,rfl⟩ := way_in (hO _ h1)
    obtain ⟨p,hp,e,rfl⟩ := road_in (hO _ h2)
    obtain ⟨k1,k2⟩ := h.inside p hp
    have e' := tn_inj (by omega) (by omega) e
    subst e'
    exact mem_netU.2 (.inr (.inr (.inl ⟨a,p.2,ha,k2,reach_on k1 k2 hrc (by unfold edgeB;simpa using hp),rfl⟩)))
  · obtain rfl := List.mem_singleton.1 hr
    obtain ⟨u,v,h1,h2,-,rfl⟩ := der2.1 hd
    obtain ⟨a,ha,rfl⟩ := town_in (hO _ h1)
    obtain ⟨c,hc,rfl⟩ := town_in (hO _ h2)
    exact mem_netU.2 (.inr (.inr (.inr ⟨a,c,ha,hc,rfl⟩)))⟩
theorem net_in : InU (netU n N ps) (netL n ps) := ⟨ofF_rising _,fun x hx => by unfold netU;exact List.mem_append_left _ hx⟩
theorem misfit_name {f g : PFact} (h : f.name = g.name) (hl : f.args.length = g.args.length) : misfit roadsP f = misfit roadsP g := by unfold misfit;rw [h,hl]
theorem net_facts (h : NetOk n N ps) {l : List PFact} (hl : InU (netU n N ps) l) : (factsBad roadsP l).1 = 0 := factsBad_iff.2 ⟨hl.set (net_fit h),fun f hf => by
  rcases mem_netU.1 (hl.2 f hf) with ⟨p,hp,rfl⟩ | ⟨a,ha,rfl⟩ | ⟨a,c,ha,hc,-,rfl⟩ | ⟨a,c,ha,hc,rfl⟩
  · exact (misfit_name (g := roadF 0 0) rfl rfl).trans (by decide +kernel)
  · exact (misfit_name (g := townF 0) rfl rfl).trans (by decide +kernel)
  · exact (misfit_name (g := wayF 0 0) rfl rfl).trans (by decide +kernel)
  · exact (misfit_name (g := cutF 0 0) rfl rfl).trans (by decide +kernel)⟩
def netM (n : Nat) (ps : List (Nat × Nat)) : List PFact := (naiveP [0,0,1] 0 roadsP (netL n ps)).1
theorem net_naive (h : NetOk n N ps) : naiveP [0,0,1] 0 roadsP (netL n ps) = (netM n ps,0) ∧ InU (netU n N ps) (netM n ps) := by
  obtain ⟨h1,h2⟩ := naive_fits (net_fit h) (st := [0,0,1]) net_in (net_facts h net_in)
  exact ⟨Prod.ext rfl h1,h2⟩
theorem net_rounds (h : NetOk n N ps) : allRun [0,0,1] 0 roadsP (netL n ps) = (netM n ps,0) := by
  rw [← (net_naive h).1]
  exact (rounds_fit (net_fit h) strata_roads rfl net_in (net_facts h net_in)).2
theorem net_follows (h : NetOk n N ps) : Follows roadsP (netL n ps) (netM n ps) := by
  have := (naive_follows strata_roads (l := netL n ps) (by rw [(net_naive h).1])).1
  rwa [(net_naive h).1] at this
theorem follows_way {l M : List PFact} (h : NetOk n N ps) (hF : Follows roadsP l M) (hl : ∀ p ∈ ps,roadF p.1 p.2 ∈ M) {a : Nat} (ha : a < N) : ∀ {k c : Nat},c < N → reachK ps N k a c = true → wayF a c ∈ M
  | 0,_,_,hk => by cases hk
  | k + 1,c,hc,hk => by
    have hmem : ∀ {a c : Nat},edgeB ps a c = true → roadF a c ∈ M := fun {a c} he => by
      have hp : (a,c) ∈ ps := by unfold edgeB at he;simpa using he
      exact hl _ hp
    rcases reach_succ.1 hk with h2 | h2 | ⟨d,hd,h2,h3⟩
    · exact follows_way h hF hl ha hc h2
    · exact hF.closed rR0 (by rw [roads_is];simp) _ (der0.2 ⟨_,_,hmem h2,rfl⟩)
    · exact hF.closed rR1 (by rw [roads_is];simp) _ (der1.2 ⟨_,_,_,follows_way h hF hl ha hd h2,hmem h3,rfl⟩)
theorem net_way (h : NetOk n N ps) {a c : Nat} (ha : a < N) (hc : c < N) : memF (wayF a c) (netM n ps) = reachK ps N N a c := bool_iff (by
  have h8 := h.nodes
  rw [memF_iff]
  constructor
  · intro hm
    obtain ⟨a',c',ha',hc',hr,e1,e2⟩ := way_in ((net_naive h).2.2 _ hm)
    rw [tn_inj (by omega) (by omega) e1,tn_inj (by omega) (by omega) e2]
    exact hr
  · intro hr
    exact follows_way h (net_follows h) (fun p hp => (net_follows h).sub _ (mem_netL.2 (.inl ⟨p,hp,rfl⟩))) ha hc hr)
end
end Go.Proofs.YtiiicochdidolaaGreat
