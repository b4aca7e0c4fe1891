/-
  THE TEXTS TopD, SynA, DeskK, Alive8P, DeskW1, DeskR1, one behind the other.
-/
import Derived.Test.YtiiicochdidolaaGreatTk1
import Derived.Test.YtiiicochdidolaaGreatTk2
import Derived.Test.YtiiicochdidolaaGreatTk3
import Derived.Test.YtiiicochdidolaaGreatTk11
import Derived.Test.YtiiicochdidolaaGreatTk13
import Derived.Test.YtiiicochdidolaaGreatTk17
import Derived.Test.YtiiicochdidolaaGreatTk18
import Derived.Test.YtiiicochdidolaaGreatTk22
import Derived.Lib.AppendStr
import Derived.Laws.IdiomStrings
import Derived.Laws.BytesArg
namespace Go.Proofs.YtiiicochdidolaaGreat
def rText : Str := ⟨([119,97,121,40,88,44,89,41,32,58,45,32,114,111,97,100,40,88,44,89,41,46,32,119,97,121,40,88,44,90,41,32,58,45,32,119,97,121,40,88,44,89,41,44,32,114,111,97,100,40,89,44,90,41,46,32,99,117,116,40,88,44,89,41,32,58,45,32,116,111,119,110,40,88,41,44,32,116,111,119,110,40,89,41,44,32,33,119,97,121,40,88,44,89,41,46] : List UInt8).toArray⟩
theorem parse_r : parseF rText = (roadsP,0,0) := by decide +kernel
def wText : Str := ⟨#[119,97,121,40,88,44,89,41]⟩
def askB : List PAtom := [⟨false,xway,[⟨true,xX⟩,⟨true,xY⟩]⟩]
theorem parse_w : parseBodyF wText = (askB,0,0) := by decide +kernel
def zF : PFact := ⟨⟨#[]⟩,[]⟩
def zT : Str := ⟨#[]⟩
def tellDo (f : PFact) : PDo := ⟨1,0,f,zT⟩
def rulesDo : PDo := ⟨2,0,zF,rText⟩
def beginDo : PDo := ⟨3,0,zF,zT⟩
def stepDo (n : Int) : PDo := ⟨4,n,zF,zT⟩
def askDo : PDo := ⟨5,0,zF,wText⟩
def saveDo : PDo := ⟨7,0,zF,zT⟩
def backDo : PDo := ⟨8,0,zF,zT⟩
def tailDo (at' : Int) : List PDo := [rulesDo,beginDo,stepDo at',saveDo,tellDo (roadF 6 7),beginDo,stepDo 90,askDo,backDo,stepDo 90,askDo]
def topDo (n : Nat) (ps : List (Nat × Nat)) (at' : Int) : List PDo := (netL n ps).map tellDo ++ tailDo at'
def pairsB (N : Nat) : List (Nat × Nat) := (List.range N).flatMap fun a => (List.range N).map fun b => (a,b)
theorem pairs_nodup : ((List.range 9).all fun N => decide (pairsB N).Nodup) = true := by decide +kernel
theorem mem_pairs {N : Nat} {p : Nat × Nat} : p ∈ pairsB N ↔ p.1 < N ∧ p.2 < N := by
  unfold pairsB
  simp only [List.mem_flatMap,List.mem_map,List.mem_range]
  exact ⟨fun ⟨a,h1,b,h2,h3⟩ => by subst h3;exact ⟨h1,h2⟩,fun h => ⟨p.1,h.1,p.2,h.2,rfl⟩⟩
def waysB (N : Nat) (ps : List (Nat × Nat)) : List (Nat × Nat) := (pairsB N).filter fun p => reachK ps N N p.1 p.2
theorem ways_nodup {N : Nat} (hN : N ≤ 8) (ps : List (Nat × Nat)) : (waysB N ps).Nodup := List.Sublist.nodup List.filter_sublist (of_decide_eq_true (List.all_eq_true.1 pairs_nodup N (List.mem_range.2 (by omega))))
theorem mem_waysB {N : Nat} {ps : List (Nat × Nat)} {p : Nat × Nat} : p ∈ waysB N ps ↔ p.1 < N ∧ p.2 < N ∧ reachK ps N N p.1 p.2 = true := by
  unfold waysB
  rw [List.mem_filter,mem_pairs,and_assoc]
def bindOf (p : Nat × Nat) : Binds := [⟨xX,tn p.1⟩,⟨xY,tn p.2⟩]
theorem nodup_map {α β : Type} {f : α → β} {l : List α} (hf : ∀ x ∈ l,∀ y ∈ l,f x = f y → x = y) (h : l.Nodup) : (l.map f).Nodup := by
  unfold List.Nodup
  rw [List.pairwise_map]
  exact h.imp_of_mem fun {a b} ha hb hne e => hne (hf a ha b hb e)
theorem len_eq {α : Type} [DecidableEq α] {a b : List α} (ha : a.Nodup) (hb : b.Nodup) (h : ∀ x,x ∈ a ↔ x ∈ b) : a.length = b.length := Nat.le_antisymm (nodup_le ha fun x hx => (h x).1 hx) (nodup_le hb fun x hx => (h x).2 hx)
theorem vars_ask (w : Str) : (∃ x ∈ askB,w ∈ varsOf x) ↔ w = xX ∨ w = xY := by
  simp only [mem_varsOf]
  constructor
  · rintro ⟨x,hx,t,ht,hv,rfl⟩
    obtain rfl := List.mem_singleton.1 hx
    rcases List.mem_cons.1 ht with rfl | ht
    · exact .inl rfl
    · obtain rfl := List.mem_singleton.1 ht;exact .inr rfl
  · rintro (rfl | rfl)
    · exact ⟨_,List.mem_singleton.2 rfl,⟨true,xX⟩,by simp,rfl,rfl⟩
    · exact ⟨_,List.mem_singleton.2 rfl,⟨true,xY⟩,by simp,rfl,rfl⟩
theorem two_rise (u v : Str) : RisingC cmpBind [⟨xX,u⟩,⟨xY,v⟩] := by
  unfold RisingC
  rw [List.pairwise_cons]
  refine ⟨fun b hb => ?_,List.pairwise_singleton ..⟩
  obtain rfl := List.mem_singleton.1 hb
  unfold ltC
  rw [cmpBind_eq]
  show decide ((if cmpStr xX xY ≠ 0 then cmpStr xX xY else cmpStr u v) < 0) = true
  rw [if_pos (show cmpStr xX xY ≠ 0 by decide +kernel)]
  decide +kernel
theorem told_two {M : List PFact} {m : Binds} : Told (fun _ => M) askB m ↔ ∃ u v,m = [⟨xX,u⟩,⟨xY,v⟩] ∧ ⟨xway,[u,v]⟩ ∈ M := by
  constructor
  · rintro ⟨h1,h2,h3,h4⟩
    obtain ⟨f,k1,k2⟩ := h4 0 _ rfl
    obtain ⟨u,v,g1,g2,rfl⟩ := fill2.1 k1
    refine ⟨u,v,?_,(memF_iff _ _).1 k2⟩
    have hv : ∀ w,w ∈ Vs m ↔ w = xX ∨ w = xY := fun w => (h3 w).trans (vars_ask w)
    refine risingC_ext cmpBind3 h1 (two_rise u v) fun x => ?_
    constructor
    · intro hx
      have hn := getB_of_mem h2 (v := x.var) (n := x.name) hx
      obtain ⟨xv,xn⟩ := x
      rcases (hv xv).1 (List.mem_map.2 ⟨_,hx,rfl⟩) with e | e
      · subst e;rw [g1] at hn;obtain rfl := Option.some.inj hn;simp
      · subst e;rw [g2] at hn;obtain rfl := Option.some.inj hn;simp
    · intro hx
      rcases List.mem_cons.1 hx with rfl | hx
      · exact getB_mem g1
      · obtain rfl := List.mem_singleton.1 hx;exact getB_mem g2
  · rintro ⟨u,v,rfl,hm⟩
    have e1 : getB xX [⟨xX,u⟩,⟨xY,v⟩] = some u := by simp [getB]
    have e2 : getB xY [⟨xX,u⟩,⟨xY,v⟩] = some v := by simp [getB,vars_ne.1]
    refine ⟨two_rise u v,nd2 u v,fun w => (by rw [vars_ask];simp [Vs]),fun j a ha => ?_⟩
    · cases j with
      | zero =>
        obtain rfl := Option.some.inj ha
        exact ⟨_,fill2.2 ⟨u,v,e1,e2,rfl⟩,by rw [(memF_iff _ _).2 hm];rfl⟩
      | succ j => cases ha
section
variable {n N : Nat} {ps : List (Nat × Nat)}
theorem ask_len (h : NetOk n N ps) : (allP askB (netM n ps)).2 = 0 ∧ (allP askB (netM n ps)).1.length = (waysB N ps).length := by
  have h8 := h.nodes
  have hU := (net_naive h).2
  have h0 : (allP askB (netM n ps)).2 = 0 := with_fits (by decide +kernel) (hU.set (net_fit h)) (by rw [setF_nil]) (hU.len (net_fit h)) (by simp) (by decide +kernel)
  refine ⟨h0,?_⟩
  rcases allP_cases askB (netM n ps) with ⟨h1,-⟩ | ⟨-,-,-,h4,h5⟩
  · exact absurd h0 h1
  · have hinj : ∀ x ∈ waysB N ps,∀ y ∈ waysB N ps,bindOf x = bindOf y → x = y := fun x hx y hy e => by
      obtain ⟨x1,x2,-⟩ := mem_waysB.1 hx
      obtain ⟨y1,y2,-⟩ := mem_waysB.1 hy
      unfold bindOf at e
      injection e with e1 e2
      injection e2 with e2 _
      injection e1 with _ e1
      injection e2 with _ e2
      exact Prod.ext (tn_inj (by omega) (by omega) e1) (tn_inj (by omega) (by omega) e2)
    have el : ((waysB N ps).map bindOf).length = (waysB N ps).length := List.length_map _
    rw [← el]
    refine len_eq (risingC_nodup cmpBinds3 h4) (nodup_map hinj (ways_nodup h8 ps)) fun m => ?_
    rw [h5,told_two,List.mem_map]
    constructor
    · rintro ⟨u,v,rfl,hm⟩
      obtain ⟨a,c,ha,hc,hr,rfl,rfl⟩ := way_in (hU.2 _ hm)
      exact ⟨(a,c),mem_waysB.2 ⟨ha,hc,hr⟩,rfl⟩
    · rintro ⟨p,hp,rfl⟩
      obtain ⟨p1,p2,p3⟩ := mem_waysB.1 hp
      exact ⟨_,_,rfl,(memF_iff _ _).1 ((net_way h p1 p2).trans p3)⟩
theorem reach_more (hn : n ≤ 5) (hp : ∀ p ∈ ps,p.1 < n ∧ p.2 < n) : ∀ {k a c : Nat},reachK (ps ++ [(6,7)]) 8 k a c = true → (a < n ∧ c < n ∧ reachK ps n n a c = true) ∨ (a = 6 ∧ c = 7)
  | 0,_,_,h => by cases h
  | k + 1,a,c,h => by
    have hedge : ∀ {a c : Nat},edgeB (ps ++ [(6,7)]) a c = true → (a < n ∧ c < n ∧ edgeB ps a c = true) ∨ (a = 6 ∧ c = 7) := fun {a c} he => by
      unfold edgeB at he ⊢
      simp only [decide_eq_true_eq,List.mem_append,List.mem_singleton] at he ⊢
      rcases he with he | he
      · exact .inl ⟨(hp _ he).1,(hp _ he).2,he⟩
      · injection he with e1 e2;exact .inr ⟨e1,e2⟩
    rcases reach_succ.1 h with h1 | h1 | ⟨b,hb,h1,h2⟩
    · exact reach_more hn hp h1
    · rcases hedge h1 with ⟨g1,g2,g3⟩ | g
      · exact .inl ⟨g1,g2,reach_edge g2 g3⟩
      · exact .inr g
    · rcases reach_more hn hp h1 with ⟨g1,g2,g3⟩ | ⟨g1,g2⟩
      · rcases hedge h2 with ⟨k1,k2,k3⟩ | ⟨k1,k2⟩
        · exact .inl ⟨g1,k2,reach_on g2 k2 g3 k3⟩
        · omega
      · rcases hedge h2 with ⟨k1,k2,k3⟩ | ⟨k1,k2⟩ <;> omega
theorem reach_lift (hn : n ≤ 5) : ∀ {k a c : Nat},reachK ps n k a c = true → reachK (ps ++ [(6,7)]) 8 k a c = true
  | 0,_,_,h => by cases h
  | k + 1,a,c,h => by
    have hedge : ∀ {a c : Nat},edgeB ps a c = true → edgeB (ps ++ [(6,7)]) a c = true := fun {a c} he => by
      unfold edgeB at he ⊢
      simp only [decide_eq_true_eq,List.mem_append] at he ⊢
      exact .inl he
    rcases reach_succ.1 h with h1 | h1 | ⟨b,hb,h1,h2⟩
    · exact reach_succ.2 (.inl (reach_lift hn h1))
    · exact reach_succ.2 (.inr (.inl (hedge h1)))
    · exact reach_succ.2 (.inr (.inr ⟨b,by omega,reach_lift hn h1,hedge h2⟩))
theorem ways_more (hn : n ≤ 5) (hp : ∀ p ∈ ps,p.1 < n ∧ p.2 < n) : (waysB 8 (ps ++ [(6,7)])).length = (waysB n ps).length + 1 := by
  have e : (waysB n ps ++ [(6,7)]).length = (waysB n ps).length + 1 := by rw [List.length_append];rfl
  rw [← e]
  refine len_eq (ways_nodup (by decide) _) ?_ fun p => ?_
  · rw [List.nodup_append]
    refine ⟨ways_nodup (by omega) _,by simp,fun a ha b hb e => ?_⟩
    obtain rfl := List.mem_singleton.1 hb
    subst e
    have := (mem_waysB.1 ha).1
    have h6 : 6 < n := this
    omega
  · rw [mem_waysB,List.mem_append,mem_waysB,List.mem_singleton]
    constructor
    · rintro ⟨-,-,h3⟩
      rcases reach_more hn hp h3 with h | ⟨e1,e2⟩
      · exact .inl h
      · exact .inr (Prod.ext e1 e2)
    · rintro (⟨h1,h2,h3⟩ | rfl)
      · exact ⟨by omega,by omega,reach_any (by omega) (reach_lift hn h3)⟩
      · refine ⟨by decide,by decide,reach_edge (by decide) ?_⟩
        unfold edgeB
        simp
theorem net_more (h : NetOk n n ps) (hn : n ≤ 5) (hf : ps.length ≤ 12) : NetOk n 8 (ps ++ [(6,7)]) := ⟨h.towns,by omega,Nat.le_refl _,fun p hp => by
  rcases List.mem_append.1 hp with hp | hp
  · obtain ⟨h1,h2⟩ := h.inside p hp;omega
  · obtain rfl := List.mem_singleton.1 hp;exact ⟨by decide,by decide⟩,by rw [List.length_append];exact Nat.add_le_add_right hf 1⟩
theorem join_more : joinF (netL n ps) [roadF 6 7] = netL n (ps ++ [(6,7)]) := rising_ext (ofF_rising _) (ofF_rising _) fun x => by
  rw [mem_joinF,List.mem_singleton,mem_netL,mem_netL]
  constructor
  · rintro ((⟨p,hp,e⟩ | h) | e)
    · exact .inl ⟨p,List.mem_append_left _ hp,e⟩
    · exact .inr h
    · exact .inl ⟨(6,7),by simp,e⟩
  · rintro (⟨p,hp,e⟩ | h)
    · rcases List.mem_append.1 hp with hp | hp
      · exact .inl (.inl ⟨p,hp,e⟩)
      · obtain rfl := List.mem_singleton.1 hp;exact .inr e
    · exact .inl (.inr h)
def run0 (l : List PFact) : PRun := ⟨l,l,0,0,false⟩
theorem run0_begin (h : NetOk n N ps) : beginP [0,0,1] 0 roadsP (netL n ps) = (run0 (netL n ps),0) ∧ RunFit [0,0,1] roadsP (netU n N ps) (run0 (netL n ps)) := by
  have hf := net_facts h net_in
  have e : beginP [0,0,1] 0 roadsP (netL n ps) = (run0 (netL n ps),0) := by
    unfold beginP
    rw [if_neg (by simp),if_neg (by simpa using hf)]
    exact (by decide +kernel : (countP [0,0,1] == 0) = false) |> fun h => (by rw [h];rfl)
  obtain ⟨-,-,-,hok⟩ := begin_ok strata_roads (l := netL n ps) (by rw [e])
  rw [e] at hok
  exact ⟨e,hok,net_in,by show (0 : Int) ≤ ((netL n ps).length : Int) + 0;omega⟩
theorem roads_ruled : Ruled [0,0,1] roadsP ∧ countP [0,0,1] = 2 := ⟨(strata_count strata_roads rfl).1,by decide +kernel⟩
theorem iter_more {st : List Int} {q : Int} {p : List PRule} {r : PRun} {k : Nat} (h0 : (iterP st q p k r).2 = 0) (hd : (iterP st q p k r).1.done = true) (j : Nat) : iterP st q p (k + j) r = iterP st q p k r := by
  rw [iter_add h0,iter_still hd]
  exact Prod.ext rfl h0.symm
theorem run_knows (h : NetOk n N ps) {k : Nat} (h0 : (iterP [0,0,1] 0 roadsP k (run0 (netL n ps))).2 = 0) (hd : (iterP [0,0,1] 0 roadsP k (run0 (netL n ps))).1.done = true) : (iterP [0,0,1] 0 roadsP k (run0 (netL n ps))).1.known = netM n ps := by
  have e := net_rounds h
  obtain ⟨b1,b2⟩ := run0_begin h
  obtain ⟨hR,hc⟩ := roads_ruled
  unfold allRun at e
  rw [b1,if_neg (by simp)] at e
  dsimp only at e
  rw [steps_good b2.ok (by omega) (by omega)] at e
  have e1000 : (1000 : Int).toNat = 1000 := rfl
  rw [e1000,if_neg (by rw [(b2.iter (net_fit h) hR (by rw [hc];decide)).1];simp)] at e
  have e2 := congrArg Prod.fst e
  dsimp only at e2
  rw [← e2,← iter_more h0 hd 1000]
  have h1 := (b2.iter (net_fit h) hR (by rw [hc];decide) (n := 1000)).1
  have hd' : (iterP [0,0,1] 0 roadsP 1000 (run0 (netL n ps))).1.done = true := by
    have hend := steps_end hR (by rw [hc];decide) b2.ok
    rw [steps_good b2.ok (by omega) (by omega),e1000] at hend
    rcases hend with g | g | ⟨-,-,g⟩
    · rw [h1] at g;cases g
    · rw [h1] at g;cases g
    · exact g
  rw [Nat.add_comm,iter_more h1 hd' k]
variable {sp : StrataFn}
theorem do_tell (d : PDesk) (f : PFact) : doP sp d (tellDo f) = tellP d f := rfl
theorem topdo_rules (d : PDesk) : doP sp d rulesDo = rulesP sp d rText := rfl
theorem do_begin (d : PDesk) : doP sp d beginDo = setD d (beginP (sp d.rules).1 (sp d.rules).2.1 d.rules d.told) := rfl
theorem do_step (d : PDesk) (n : Int) : doP sp d (stepDo n) = if d.running then setD d (stepsRun (sp d.rules).1 (sp d.rules).2.1 d.rules d.run n) else (d,ansE 11 0) := rfl
theorem do_ask (d : PDesk) : doP sp d askDo = (d,askP d wText) := rfl
theorem do_save (d : PDesk) : doP sp d saveDo = if d.running then saveD sp d else (d,ansE 11 0) := rfl
theorem do_back (d : PDesk) : doP sp d backDo = backD sp d := rfl
theorem tell_ok {d : PDesk} {f : PFact} (hf : wrongF f = 0) (hl : (joinF d.told [f]).length ≤ 200) : tellP d f = ({ d with told := joinF d.told [f] },ansN (joinF d.told [f]).length) := by
  unfold tellP;rw [if_neg (by simpa using hf),if_neg (by omega)]
theorem setD_good {d : PDesk} {r : PRun} : setD d (r,0) = ({ d with running := true,run := r },ansN r.known.length) := rfl
theorem play_tells : ∀ (l2 l1 : List PFact) (d : PDesk),d.told = l1 → Rising (l1 ++ l2) → (l1 ++ l2).length ≤ 200 → (∀ x ∈ l2,wrongF x = 0) → (playL sp d (l2.map tellDo)).1 = { d with told := l1 ++ l2 }
  | [],l1,d,h,_,_,_ => by subst h;rw [List.append_nil];rfl
  | f :: l2,l1,d,h,hr,hl,hw => by
    subst h
    have e : joinF d.told [f] = d.told ++ [f] := rising_ext (ofF_rising _) (List.Pairwise.sublist (List.Sublist.append (List.Sublist.refl _) (List.Sublist.cons_cons f (List.nil_sublist l2))) hr) fun x => by rw [mem_joinF,List.mem_append]
    rw [List.map_cons,playL,do_tell,tell_ok (hw f (by simp)) (by rw [e];rw [List.length_append] at hl ⊢;simp only [List.length_cons,List.length_nil] at hl ⊢;omega),e]
    have h2 := play_tells l2 (d.told ++ [f]) { d with told := d.told ++ [f] } rfl (by rw [List.append_assoc];exact hr) (by rw [List.append_assoc];exact hl) (fun x hx => hw x (by simp [hx]))
    rw [List.append_assoc] at h2
    exact h2
section
variable {n : Nat} {ps : List (Nat × Nat)}
theorem netU_same {x : PFact} (hx : x ∈ netU n n ps) : x ∈ netL n ps ++ (List.replicate 1 (wayF 6 7) ++ (waysL n ps ++ cutsL n)) ∨ False := by
  refine .inl ?_
  unfold netU at hx
  rcases List.mem_append.1 hx with h | h
  · exact List.mem_append_left _ h
  · exact List.mem_append_right _ (List.mem_append_right _ h)
theorem netU_more (hn : n ≤ 5) (hp : ∀ p ∈ ps,p.1 < n ∧ p.2 < n) {x : PFact} (hx : x ∈ netU n 8 (ps ++ [(6,7)])) : x ∈ netL n (ps ++ [(6,7)]) ++ (List.replicate 1 (wayF 6 7) ++ (waysL n ps ++ cutsL n)) := by
  unfold netU at hx
  rcases List.mem_append.1 hx with h | h
  · exact List.mem_append_left _ h
  refine List.mem_append_right _ ?_
  rcases List.mem_append.1 h with h | h
  · obtain ⟨a,c,-,-,hr,rfl⟩ := mem_ways.1 h
    rcases reach_more hn hp hr with ⟨h1,h2,h3⟩ | ⟨rfl,rfl⟩
    · exact List.mem_append_right _ (List.mem_append_left _ (mem_ways.2 ⟨a,c,h1,h2,h3,rfl⟩))
    · exact List.mem_append_left _ (by simp)
  · exact List.mem_append_right _ (List.mem_append_right _ h)
theorem run_bound {l U : List PFact} (hF : FitU roadsP U) {X : List PFact} (hX : X.length ≤ l.length + 51) (hw : ∀ x ∈ U,x ∈ X) {k : Nat} {r : PRun} (hr : RunFit [0,0,1] roadsP U r) (hl : l.length ≤ r.known.length) (hk : 90 ≤ k) : (iterP [0,0,1] 0 roadsP k r).1.done = true := by
  obtain ⟨hR,hc⟩ := roads_ruled
  obtain ⟨h1,h2⟩ := hr.iter hF hR (by rw [hc];decide) (n := k)
  rcases iter_right hR (n := k) hr.ok with g | g | ⟨-,g2,g3⟩
  · rw [h1] at g;cases g
  · rw [h1] at g;cases g
  rcases g3 with g3 | g3
  · exact g3
  · exfalso
    have hlen := nodup_le (nodup_rising h2.known.1) (m := X) fun x hx => hw x (h2.known.2 x hx)
    have g4 := g2.s1
    have := hr.ok.s0
    rw [hc] at g4
    omega
theorem fifty {n : Nat} (hn : n ≤ 5) (ps : List (Nat × Nat)) (l : List PFact) : (l ++ (List.replicate 1 (wayF 6 7) ++ (waysL n ps ++ cutsL n))).length ≤ l.length + 51 := by
  have w1 : (waysL n ps).length ≤ (List.range n).length * n := flat_len fun a _ => by
    rw [List.length_map]
    have := List.length_filter_le (fun c => reachK ps n n a c) (List.range n)
    rwa [List.length_range] at this
  have w2 : (cutsL n).length ≤ (List.range n).length * n := flat_len fun a _ => by rw [List.length_map,List.length_range];exact Nat.le_refl _
  have w3 : n * n ≤ 25 := Nat.mul_le_mul hn hn
  rw [List.length_range] at w1 w2
  simp only [List.length_append,List.length_replicate]
  omega
theorem ask_two {d : PDesk} (hr : d.running = true) (hd : d.run.done = true) {M : List PFact} (hk : d.run.known = M) (h0 : (allP askB M).2 = 0) : askP d wText = ⟨0,0,(allP askB M).1.length,(allP askB M).1,zeroPf⟩ := by
  have hb : ¬ ((d.running && d.run.done) = false) := by rw [hr,hd];decide
  unfold askP
  rw [parse_w]
  dsimp only
  rw [if_neg (show ¬ ((0 : Int) ≠ 0) by decide),if_neg hb,hk,if_neg (show ¬ ((allP askB M).2 ≠ 0) from fun h => h h0)]
theorem topDo_len (n : Nat) (ps : List (Nat × Nat)) (at' : Int) : (topDo n ps at').length = (netL n ps).length + 11 := by unfold topDo;rw [List.length_append,List.length_map];rfl
theorem top_desk (hsp : ∀ p,StrataIs p (sp p).1 (sp p).2) (h : NetOk n n ps) (hn : n ≤ 5) (hf : ps.length ≤ 12) {at' : Int} (a0 : 0 ≤ at') (a1 : at' ≤ 20) :
    ∃ x y,(playL sp zeroDesk (topDo n ps at')).2[(netL n ps).length + 10]? = some x ∧ (playL sp zeroDesk (topDo n ps at')).2[(netL n ps).length + 7]? = some y ∧ x.err = 0 ∧ x.n = ((waysB n ps).length : Int) ∧ y.n = (((waysB n ps).length + 1 : Nat) : Int) := by
  obtain ⟨q1,q2⟩ := StrataIs.unique (hsp roadsP) strata_roads
  have q3 : (sp roadsP).2.1 = 0 := by rw [q2]
  have hm := net_more h hn hf
  have hl := netL_len h
  have hl' := netL_len hm
  obtain ⟨hR,hc⟩ := roads_ruled
  have hc16 : countP [0,0,1] ≤ 16 := by rw [hc];decide
  obtain ⟨b1,b2⟩ := run0_begin h
  obtain ⟨b3,b4⟩ := run0_begin hm
  have i1 := b2.iter (net_fit h) hR hc16 (n := at'.toNat)
  have i2 := b2.iter (net_fit h) hR hc16 (n := at'.toNat + 90)
  have i3 := b4.iter (net_fit hm) hR hc16 (n := 90)
  have n90 : (90 : Int).toNat = 90 := rfl
  have f1 : (iterP [0,0,1] 0 roadsP (at'.toNat + 90) (run0 (netL n ps))).1.done = true := run_bound (net_fit h) (fifty hn ps (netL n ps)) (fun x hx => (netU_same hx).elim id False.elim) b2 (Nat.le_refl _) (by omega)
  have f2 : (iterP [0,0,1] 0 roadsP 90 (run0 (netL n (ps ++ [(6,7)])))).1.done = true := run_bound (net_fit hm) (fifty hn ps (netL n (ps ++ [(6,7)]))) (fun x hx => netU_more hn h.inside hx) b4 (Nat.le_refl _) (Nat.le_refl _)
  have k1 := run_knows h i2.1 f1
  have k2 := run_knows hm i3.1 f2
  have r1 : iterP [0,0,1] 0 roadsP at'.toNat (run0 (netL n ps)) = ((iterP [0,0,1] 0 roadsP at'.toNat (run0 (netL n ps))).1,0) := Prod.ext rfl i1.1
  have r2 : iterP [0,0,1] 0 roadsP 90 (run0 (netL n (ps ++ [(6,7)]))) = ((iterP [0,0,1] 0 roadsP 90 (run0 (netL n (ps ++ [(6,7)])))).1,0) := Prod.ext rfl i3.1
  have r3 : iterP [0,0,1] 0 roadsP 90 (iterP [0,0,1] 0 roadsP at'.toNat (run0 (netL n ps))).1 = ((iterP [0,0,1] 0 roadsP (at'.toNat + 90) (run0 (netL n ps))).1,0) := by
    rw [← iter_add i1.1];exact Prod.ext rfl i2.1
  obtain ⟨w1,w2⟩ := ask_len h
  obtain ⟨w3,w4⟩ := ask_len hm
  rw [ways_more hn h.inside] at w4
  generalize (iterP [0,0,1] 0 roadsP at'.toNat (run0 (netL n ps))).1 = R1 at *
  generalize (iterP [0,0,1] 0 roadsP (at'.toNat + 90) (run0 (netL n ps))).1 = R3 at *
  generalize (iterP [0,0,1] 0 roadsP 90 (run0 (netL n (ps ++ [(6,7)])))).1 = R2 at *
  have hgood : ∀ x ∈ netL n ps,wrongF x = 0 := fun x hx => netU_fine h x (by unfold netU;exact List.mem_append_left _ hx)
  have t1 := play_tells (sp := sp) (netL n ps) [] zeroDesk rfl (ofF_rising _) (by rw [List.nil_append];omega) hgood
  rw [List.nil_append] at t1
  have tl := playL_len (sp := sp) ((netL n ps).map tellDo) zeroDesk
  rw [List.length_map] at tl
  have e1 : (doP sp ({ zeroDesk with told := netL n ps } : PDesk) rulesDo).1 = ⟨netL n ps,roadsP,false,zeroRun,none⟩ := by
    rw [topdo_rules];unfold rulesP;rw [parse_r,if_neg (by simp)];dsimp only;rw [q3,if_neg (by simp)]
  have e2 : (doP sp (⟨netL n ps,roadsP,false,zeroRun,none⟩ : PDesk) beginDo).1 = ⟨netL n ps,roadsP,true,run0 (netL n ps),none⟩ := by
    rw [do_begin];dsimp only;rw [q1,q3,b1,setD_good]
  have e3 : (doP sp (⟨netL n ps,roadsP,true,run0 (netL n ps),none⟩ : PDesk) (stepDo at')).1 = ⟨netL n ps,roadsP,true,R1,none⟩ := by
    rw [do_step];dsimp only;rw [if_pos rfl,q1,q3,steps_good b2.ok a0 (by omega),r1,setD_good]
  have e4 : (doP sp (⟨netL n ps,roadsP,true,R1,none⟩ : PDesk) saveDo).1 = ⟨netL n ps,roadsP,true,R1,some (runB8 R1)⟩ := by
    rw [do_save];dsimp only;rw [if_pos rfl];unfold saveD saveP;dsimp only;rw [q1,q3,runBad_zero.2 ⟨rfl,i1.2.ok⟩,if_neg (by simp),if_neg (by simp)]
  have e5 : (doP sp (⟨netL n ps,roadsP,true,R1,some (runB8 R1)⟩ : PDesk) (tellDo (roadF 6 7))).1 = ⟨netL n (ps ++ [(6,7)]),roadsP,true,R1,some (runB8 R1)⟩ := by
    rw [do_tell,tell_ok (show wrongF (roadF 6 7) = 0 from wrong_two (by decide +kernel) (by decide) (by decide)) (by dsimp only;rw [join_more];omega)];dsimp only;rw [join_more]
  have e6 : (doP sp (⟨netL n (ps ++ [(6,7)]),roadsP,true,R1,some (runB8 R1)⟩ : PDesk) beginDo).1 = ⟨netL n (ps ++ [(6,7)]),roadsP,true,run0 (netL n (ps ++ [(6,7)])),some (runB8 R1)⟩ := by
    rw [do_begin];dsimp only;rw [q1,q3,b3,setD_good]
  have e7 : (doP sp (⟨netL n (ps ++ [(6,7)]),roadsP,true,run0 (netL n (ps ++ [(6,7)])),some (runB8 R1)⟩ : PDesk) (stepDo 90)).1 = ⟨netL n (ps ++ [(6,7)]),roadsP,true,R2,some (runB8 R1)⟩ := by
    rw [do_step];dsimp only;rw [if_pos rfl,q1,q3,steps_good b4.ok (by decide) (by decide),n90,r2,setD_good]
  have e8 : doP sp (⟨netL n (ps ++ [(6,7)]),roadsP,true,R2,some (runB8 R1)⟩ : PDesk) askDo = (⟨netL n (ps ++ [(6,7)]),roadsP,true,R2,some (runB8 R1)⟩,⟨0,0,(((waysB n ps).length + 1 : Nat) : Int),(allP askB (netM n (ps ++ [(6,7)]))).1,zeroPf⟩) := by
    rw [do_ask,ask_two rfl f2 k2 w3,w4]
  have e9 : (doP sp (⟨netL n (ps ++ [(6,7)]),roadsP,true,R2,some (runB8 R1)⟩ : PDesk) backDo).1 = ⟨netL n (ps ++ [(6,7)]),roadsP,true,R1,some (runB8 R1)⟩ := by
    rw [do_back];unfold backD;dsimp only
    obtain ⟨g1,g2⟩ := load_save (q := 0) hc16 (runBad_zero.2 ⟨rfl,i1.2.ok⟩)
    unfold loadP
    rw [q1,q3,g1,if_neg Bool.false_ne_true,g2,runBad_zero.2 ⟨rfl,i1.2.ok⟩,if_neg (by simp),setD_good]
  have e10 : (doP sp (⟨netL n (ps ++ [(6,7)]),roadsP,true,R1,some (runB8 R1)⟩ : PDesk) (stepDo 90)).1 = ⟨netL n (ps ++ [(6,7)]),roadsP,true,R3,some (runB8 R1)⟩ := by
    rw [do_step];dsimp only;rw [if_pos rfl,q1,q3,steps_good i1.2.ok (by decide) (by decide),n90,r3,setD_good]
  have e11 : doP sp (⟨netL n (ps ++ [(6,7)]),roadsP,true,R3,some (runB8 R1)⟩ : PDesk) askDo = (⟨netL n (ps ++ [(6,7)]),roadsP,true,R3,some (runB8 R1)⟩,⟨0,0,((waysB n ps).length : Int),(allP askB (netM n ps)).1,zeroPf⟩) := by
    rw [do_ask,ask_two rfl f1 k1 w1,w2]
  have g7 : (playL sp { zeroDesk with told := netL n ps } (tailDo at')).2[7]? = some (doP sp (doP sp (doP sp (doP sp (doP sp (doP sp (doP sp (doP sp { zeroDesk with told := netL n ps } rulesDo).1 beginDo).1 (stepDo at')).1 saveDo).1 (tellDo (roadF 6 7))).1 beginDo).1 (stepDo 90)).1 askDo).2 := rfl
  have g10 : (playL sp { zeroDesk with told := netL n ps } (tailDo at')).2[10]? = some (doP sp (doP sp (doP sp (doP sp (doP sp (doP sp (doP sp (doP sp (doP sp (doP sp (doP sp { zeroDesk with told := netL n ps } rulesDo).1 beginDo).1 (stepDo at')).1 saveDo).1 (tellDo (roadF 6 7))).1 beginDo).1 (stepDo 90)).1 askDo).1 backDo).1 (stepDo 90)).1 askDo).2 := rfl
  rw [e1,e2,e3,e4,e5,e6,e7,e8] at g7 g10
  dsimp only at g7 g10
  rw [e9,e10,e11] at g10
  refine ⟨⟨0,0,((waysB n ps).length : Int),(allP askB (netM n ps)).1,zeroPf⟩,⟨0,0,(((waysB n ps).length + 1 : Nat) : Int),(allP askB (netM n (ps ++ [(6,7)]))).1,zeroPf⟩,?_,?_,rfl,rfl,rfl⟩
  · unfold topDo
    rw [playL_append,t1]
    dsimp only
    rw [List.getElem?_append_right (by omega),tl,show (netL n ps).length + 10 - (netL n ps).length = 10 by omega]
    exact g10
  · unfold topDo
    rw [playL_append,t1]
    dsimp only
    rw [List.getElem?_append_right (by omega),tl,show (netL n ps).length + 7 - (netL n ps).length = 7 by omega]
    exact g7
end
end
end Go.Proofs.YtiiicochdidolaaGreat
namespace Go.Proofs.YtiiicochdidolaaGreat
structure AtomOk (a : PAtom) : Prop where
  name : nameL a.name.data.toList = true
  many : a.terms.length ≤ 4
  terms : ∀ t ∈ a.terms,(nameL t.name.data.toList = true ∨ varL t.name.data.toList = true) ∧ t.var = variableS t.name
structure RuleOk (r : PRule) : Prop where
  head : AtomOk r.head
  so : r.head.neg = false
  many : r.body.length ≤ 5
  body : ∀ a ∈ r.body,AtomOk a
theorem bytes_of_strOf (l : Bytes) : (strOf l).data.toList = l := by simp [strOf]
theorem wordF_ok {r r1 : Bytes} {w : Str} (h : wordF r = .ok (w,r1)) : nameL w.data.toList = true ∨ varL w.data.toList = true := by
  unfold wordF at h
  split at h
  · cases h
  · split at h
    · cases h
    · rename_i h2
      cases h
      rw [bytes_of_strOf]
      cases h3 : nameL (wordOf r)
      · cases h4 : varL (wordOf r)
        · exact absurd ⟨h3,h4⟩ h2
        · exact .inr rfl
      · exact .inl rfl
theorem termsF_ok : ∀ (n : Nat) (acc : List PTerm) (r : Bytes) {l : List PTerm} {r' : Bytes},(∀ t ∈ acc,(nameL t.name.data.toList = true ∨ varL t.name.data.toList = true) ∧ t.var = variableS t.name) → termsF n acc r = .ok (l,r') →
    l.length ≤ acc.length + n ∧ l ≠ [] ∧ ∀ t ∈ l,(nameL t.name.data.toList = true ∨ varL t.name.data.toList = true) ∧ t.var = variableS t.name
  | 0,acc,r,l,r',_,h => by rw [termsF] at h;cases h
  | n + 1,acc,r,l,r',ha,h => by
    rw [termsF] at h
    cases hw : wordF r with
    | error e => rw [hw] at h;cases h
    | ok p =>
      obtain ⟨w,r1⟩ := p
      rw [hw] at h
      dsimp only at h
      have ha' : ∀ t ∈ acc ++ [⟨variableS w,w⟩],(nameL t.name.data.toList = true ∨ varL t.name.data.toList = true) ∧ t.var = variableS t.name := by
        intro t ht
        rcases List.mem_append.1 ht with ht | ht
        · exact ha t ht
        · obtain rfl := List.mem_singleton.1 ht
          exact ⟨wordF_ok hw,rfl⟩
      by_cases hc : eatsF [44] r1 = true
      · rw [if_pos hc] at h
        obtain ⟨h1,h2,h3⟩ := termsF_ok n _ _ ha' h
        refine ⟨by simp at h1;omega,h2,h3⟩
      · rw [if_neg hc] at h
        cases hm : mustF [41] (eatF [44] r1) with
        | error e => rw [hm] at h;cases h
        | ok p =>
          obtain ⟨u,r3⟩ := p
          rw [hm] at h
          cases h
          exact ⟨by simp,by simp,ha'⟩
theorem atomF_ok {no : Bool} {r r' : Bytes} {a : PAtom} (h : atomF no r = .ok (a,r')) : AtomOk a ∧ (no = false → a.neg = false) := by
  unfold atomF at h
  cases hw : wordF (behindNot no r) with
  | error e => rw [hw] at h;cases h
  | ok p =>
    obtain ⟨w,r2⟩ := p
    rw [hw] at h
    dsimp only at h
    have hk := wordF_ok hw
    split at h
    · cases h
    · rename_i hv
      have hn : nameL w.data.toList = true := hk.elim id (fun h => absurd h hv)
      have hneg : no = false → negOf no r = false := fun e => by rw [e];rfl
      by_cases hc : eatsF [40] r2 = true
      · rw [if_pos hc] at h
        cases ht : termsF 4 [] (eatF [40] r2) with
        | error e => rw [ht] at h;cases h
        | ok p =>
          obtain ⟨ts,r4⟩ := p
          rw [ht] at h
          obtain ⟨h1,-,h3⟩ := termsF_ok 4 [] _ (by simp) ht
          cases h
          exact ⟨⟨hn,by simpa using h1,h3⟩,hneg⟩
      · rw [if_neg hc] at h
        cases h
        exact ⟨⟨hn,by simp,by simp⟩,hneg⟩
theorem bodyF_ok : ∀ (n : Nat) (acc : List PAtom) (r : Bytes) {l : List PAtom} {r' : Bytes},(∀ a ∈ acc,AtomOk a) → bodyF n acc r = .ok (l,r') → l.length ≤ acc.length + n ∧ ∀ a ∈ l,AtomOk a
  | 0,acc,r,l,r',_,h => by rw [bodyF] at h;cases h
  | n + 1,acc,r,l,r',ha,h => by
    rw [bodyF] at h
    cases hw : atomF true r with
    | error e => rw [hw] at h;cases h
    | ok p =>
      obtain ⟨a,r1⟩ := p
      rw [hw] at h
      dsimp only at h
      have ha' : ∀ x ∈ acc ++ [a],AtomOk x := by
        intro t ht
        rcases List.mem_append.1 ht with ht | ht
        · exact ha t ht
        · obtain rfl := List.mem_singleton.1 ht
          exact (atomF_ok hw).1
      by_cases hc : eatsF [44] r1 = true
      · rw [if_pos hc] at h
        obtain ⟨h1,h2⟩ := bodyF_ok n _ _ ha' h
        exact ⟨by simp at h1;omega,h2⟩
      · rw [if_neg hc] at h
        cases h
        exact ⟨by simp,ha'⟩
theorem ruleF_ok {r r' : Bytes} {x : PRule} (h : ruleF r = .ok (x,r')) : RuleOk x := by
  unfold ruleF headF at h
  cases hw : atomF false r with
  | error e => rw [hw] at h;cases h
  | ok p =>
    obtain ⟨a,r1⟩ := p
    rw [hw] at h
    dsimp only at h
    cases ht : tailF r1 with
    | error e => rw [ht] at h;cases h
    | ok p =>
      obtain ⟨b,r3⟩ := p
      rw [ht] at h
      dsimp only at h
      cases hm : mustF [46] r3 with
      | error e => rw [hm] at h;cases h
      | ok p =>
        obtain ⟨u,r4⟩ := p
        rw [hm] at h
        cases h
        obtain ⟨h1,h2⟩ := atomF_ok hw
        have hb : b.length ≤ 5 ∧ ∀ a ∈ b,AtomOk a := by
          unfold tailF at ht
          split at ht
          · have := bodyF_ok 5 [] _ (by simp) ht
            exact ⟨by simpa using this.1,this.2⟩
          · cases ht
            exact ⟨by simp,by simp⟩
        exact ⟨h1,h2 rfl,hb.1,hb.2⟩
theorem progF_ok : ∀ (n : Nat) (acc : List PRule) (r : Bytes) {l : List PRule} {r' : Bytes},(∀ x ∈ acc,RuleOk x) → progF n acc r = .ok (l,r') → l.length ≤ acc.length + n ∧ ∀ x ∈ l,RuleOk x
  | 0,acc,r,l,r',ha,h => by
    rw [progF] at h
    split at h
    · cases h;exact ⟨by simp,ha⟩
    · cases h
  | n + 1,acc,r,l,r',ha,h => by
    rw [progF] at h
    split at h
    · cases h;exact ⟨by simp,ha⟩
    · cases hw : ruleF (blankF false r) with
      | error e => rw [hw] at h;cases h
      | ok p =>
        obtain ⟨x,r1⟩ := p
        rw [hw] at h
        dsimp only at h
        obtain ⟨h1,h2⟩ := progF_ok n _ _ (fun y hy => by
          rcases List.mem_append.1 hy with hy | hy
          · exact ha y hy
          · obtain rfl := List.mem_singleton.1 hy
            exact ruleF_ok hw) h
        exact ⟨by simp at h1;omega,h2⟩
end Go.Proofs.YtiiicochdidolaaGreat
namespace Go.Proofs.YtiiicochdidolaaGreat
theorem name12 {s : Str} (h : nameL s.data.toList = true ∨ varL s.data.toList = true) : s.size ≤ 12 := by
  have e : s.data.toList.length = s.size := by rw [Array.length_toList];rfl
  rcases h with h | h
  · simp only [nameL,Bool.and_eq_true,decide_eq_true_eq] at h;omega
  · simp only [varL,Bool.and_eq_true,decide_eq_true_eq] at h;omega
theorem ruleOk_small {r : PRule} (h : RuleOk r) : RuleSmall r := by
  refine ⟨by have := h.head.many;omega,fun t ht => by have := name12 (h.head.terms t ht).1;omega,by have := h.many;omega,fun a ha => by have := (h.body a ha).many;omega,fun a ha t ht => by have := name12 ((h.body a ha).terms t ht).1;omega⟩
theorem ruleOk_names {r : PRule} (h : RuleOk r) : NameSmall r :=
  ⟨by have := name12 (.inl h.head.name);omega,fun a ha => by have := name12 (.inl (h.body a ha).name);omega⟩
theorem parse_ok (s : Str) : (parseF s).1.length ≤ 16 ∧ ∀ r ∈ (parseF s).1,RuleOk r := by
  unfold parseF
  split
  · exact ⟨Nat.zero_le _,fun r hr => by cases hr⟩
  · rcases hg : progF 16 [] s.data.toList with ⟨er,r'⟩ | ⟨l,r⟩
    · exact ⟨Nat.zero_le _,fun r hr => by cases hr⟩
    · obtain ⟨h1,h2⟩ := progF_ok 16 [] _ (by simp) hg
      exact ⟨by simpa using h1,h2⟩
theorem body_ok (s : Str) : (parseBodyF s).1.length ≤ 5 ∧ ∀ a ∈ (parseBodyF s).1,AtomOk a := by
  unfold parseBodyF
  split
  · exact ⟨Nat.zero_le _,fun r hr => by cases hr⟩
  · unfold bodyAllF
    rcases hg : bodyF 5 [] s.data.toList with ⟨er,r'⟩ | ⟨l,r⟩
    · exact ⟨Nat.zero_le _,fun r hr => by cases hr⟩
    · obtain ⟨h1,h2⟩ := bodyF_ok 5 [] _ (by simp) hg
      dsimp only
      by_cases hb : blankF false r = []
      · rw [if_pos hb];exact ⟨by simpa using h1,h2⟩
      · rw [if_neg hb];exact ⟨Nat.zero_le _,fun r hr => by cases hr⟩
variable {sp : StrataFn}
def RulesOk (d : PDesk) : Prop := ∀ r ∈ d.rules,RuleOk r
theorem setD_rules (d : PDesk) (x : PRun × Int) : (setD d x).1.rules = d.rules := by unfold setD;split <;> rfl
theorem do_rules {d : PDesk} (h : RulesOk d) (x : PDo) : RulesOk (doP sp d x).1 := by
  have hs : ∀ y : PDesk,y.rules = d.rules → RulesOk y := fun y e => by unfold RulesOk;rw [e];exact h
  unfold doP
  split
  · refine hs _ ?_
    unfold tellP
    split
    · rfl
    · split <;> rfl
  split
  · unfold rulesP
    split
    · exact h
    · split
      · exact h
      · exact (parse_ok x.text).2
  split
  · exact hs _ (setD_rules _ _)
  split
  · exact h
  split
  · exact h
  split
  · refine hs _ ?_
    unfold backD
    split
    · rfl
    · exact setD_rules _ _
  split
  · split
    · exact hs _ (setD_rules _ _)
    · exact h
  split
  · split
    · refine hs _ ?_
      unfold saveD
      split <;> rfl
    · exact h
  exact h
theorem zero_rules : RulesOk zeroDesk := fun r hr => by cases hr
theorem play_rules : ∀ (l : List PDo) {d : PDesk},RulesOk d → RulesOk (playL sp d l).1
  | [],_,h => h
  | x :: l,_,h => play_rules l (do_rules h x)
end Go.Proofs.YtiiicochdidolaaGreat
namespace Go.Proofs.YtiiicochdidolaaGreat
section
variable {sp sp' : StrataFn}
end
end Go.Proofs.YtiiicochdidolaaGreat
namespace Go.Proofs.YtiiicochdidolaaGreat
open Go.RowKit
def u8v (c : UInt8) : Value := .int .u8 c.toNat
def RU8 : Reader UInt8 := fun _ _ cs c => cs = [u8v c]
theorem RU8.steady : Steady RU8 := ⟨fun _ h => h,fun _ h => h⟩
abbrev RdBytes := RdSlice 1 RU8
theorem rowU8 : RowT Tryz.prog 29 5 1 := RowT.mk' (b := 1) (z := .int .u8 0) Tryz.underlying29 (by kernel_rfl) (by omega) rfl (by omega)
abbrev OwnB (B : Nat) (w : World) (v : Value) (bs : Bytes) : Prop := Owned 1 RU8 B 5 (fun _ => False) w v bs
theorem ones_flatten : ∀ {css : List (List Value)} {bs : Bytes},css.length = bs.length → (∀ (i : Nat) (cs : List Value) (c : UInt8),css[i]? = some cs → bs[i]? = some c → cs = [u8v c]) → css.flatten = bs.map u8v
  | [],[],_,_ => rfl
  | [],c :: bs,h,_ => by simp at h
  | cs :: css,[],h,_ => by simp at h
  | cs :: css,c :: bs,h,hh => by
    rw [List.flatten_cons,hh 0 cs c rfl rfl,List.map_cons,ones_flatten (css := css) (bs := bs) (by simpa using h) fun i cs' c' h1 h2 => hh (i + 1) cs' c' (by simpa using h1) (by simpa using h2)]
    rfl
theorem ownB_iff {B : Nat} {w : World} {v : Value} {bs : Bytes} : OwnB B w v bs ↔ w.ownsRow B 5 1 v bs.length (bs.map u8v) := by
  constructor
  · rintro ⟨css,h1,h2,h3,h4⟩
    rwa [ones_flatten h1 fun i cs c hc hb => h4 i cs c hc hb] at h3
  · intro h
    refine ⟨bs.map fun c => [u8v c],by simp,by simp,?_,fun i cs c h1 h2 => ?_⟩
    · rwa [ones_flatten (bs := bs) (by simp) fun i cs c h1 h2 => ?_]
      rw [List.getElem?_map,h2] at h1
      exact (Option.some.inj h1).symm
    · rw [List.getElem?_map,h2] at h1
      exact (Option.some.inj h1).symm
theorem strCells_is (s : Str) : Go.Lib.strCells s = s.data.toList.map u8v := rfl
theorem u8_wrap (n : Nat) : IntKind.u8.wrap (n : Int) = ((UInt8.ofNat n).toNat : Int) := by
  rw [UInt8.toNat_ofNat']
  simp only [IntKind.wrap,IntKind.bits,IntKind.signed]
  first | rfl | (simp;done) | omega
theorem grown_trans {w w' w'' : World} {row row' : Option Nat} (h : w.grownBy w' row) (g : w'.grownBy w'' row') (hr : row' = row ∨ ∀ q,row' = some q → w.heap.size ≤ q) : w.grownBy w'' row :=
  ⟨g.os.trans h.os,g.tape.trans h.tape,g.output.trans h.output,Nat.le_trans h.size g.size,fun k hk hne => (g.block k (Nat.lt_of_lt_of_le hk h.size) (fun e => by
    rcases hr with e2 | e2
    · exact hne (e.trans e2)
    · have := e2 k e.symm;omega)).trans (h.block k hk hne)⟩
theorem grown_below {w w' : World} (h : Below w.heap.size w w') (row : Option Nat) : w.grownBy w' row := ⟨h.os,h.tape,h.output,h.size,fun k hk _ => h.block k hk⟩
def RowOf (w : World) (v v' : Value) : Prop := v'.ownBlock = v.ownBlock ∨ ∀ q,v'.ownBlock = some q → w.heap.size ≤ q
theorem RowOf.trans {w w' : World} {v v' v'' : Value} (h : RowOf w v v') (hs : w.heap.size ≤ w'.heap.size) (g : RowOf w' v' v'') : RowOf w v v'' := by
  rcases g with g | g
  · rcases h with h | h
    · exact .inl (g.trans h)
    · exact .inr fun q hq => h q (by rw [← g];exact hq)
  · exact .inr fun q hq => Nat.le_trans hs (g q hq)
theorem RowOf.grown {w w' w'' : World} {v v' : Value} (h : RowOf w v v') (h1 : w.grownBy w' v.ownBlock) (h2 : w'.grownBy w'' v'.ownBlock) : w.grownBy w'' v.ownBlock := grown_trans h1 h2 h
section
open Go.Lib
variable {P : Program} {w : World}
theorem run_append_string_at {base : Nat} {t u ty e : TypeId} {i : TypeInfo} (ht : P.underlying t = some (.slice e)) (hu : P.underlying u = some .string) (hi : P.info? e = some i) (hz : i.zero = some (.int .u8 0))
    (hsize : i.size = 1) (hby : i.bytes = 1) {v : Value} {n : Nat} {xs : List Value} (hown : w.ownsRow base e 1 v n xs) (s : ByteArray) (h63 : n + s.size ≤ 1099511627776) (hbase : base ≤ w.heap.size) :
    ∃ v' w',(Builtin.append_ #[t,u] ty #[v,.string s]).run P w = .ok v' w' ∧ w'.ownsRow base e 1 v' (n + s.size) (xs ++ strCells s) ∧ w.grownBy w' v.ownBlock ∧ RowOf w v v' := by
  have hmx : n + s.size ≤ maxLen := Nat.le_trans h63 (by simp [maxLen])
  have hxl : xs.length = n := by simpa using hown.1
  have hlen : (xs ++ strCells s).length = (n + s.size) * 1 := by rw [List.length_append,hxl,strCells_length,Nat.mul_one]
  have grown : ∀ (old : Nat),∀ (row : Option Nat),
      (w.drew.alloc (.cells (xs.toArray ++ (strCells s).toArray ++ Builtin.zeroCells (Value.int .u8 0).cells (grownCap w (n + s.size) old e - (n + s.size))) e)).ownsRow base e 1
        (.slice (some ⟨w.heap.size,0,none⟩) (n + s.size) (grownCap w (n + s.size) old e)) (n + s.size) (xs ++ strCells s) ∧
      w.grownBy (w.drew.alloc (.cells (xs.toArray ++ (strCells s).toArray ++ Builtin.zeroCells (Value.int .u8 0).cells (grownCap w (n + s.size) old e - (n + s.size))) e)) row := by
    intro old row
    have hge := grownCap_ge w (n + s.size) old e
    have hcm : grownCap w (n + s.size) old e ≤ maxLen := grownCap_le_maxLen w (n + s.size) old e hmx
    refine ⟨⟨hlen,.inr ⟨w.heap.size,_,_,rfl,hbase,heap_alloc_new w.drew _,hge,hcm,?_,?_⟩⟩,⟨rfl,rfl,rfl,by simp,fun k hk _ => Below.heap_alloc w.drew _ k hk⟩⟩
    · have hz1 : (Value.int IntKind.u8 0).cells.size = 1 := rfl
      simp only [Array.size_append,List.size_toArray,size_zeroCells,hz1,hxl,strCells_length]
      omega
    · simp only [Array.toList_append,List.append_assoc]
      rw [← List.append_assoc,← hlen]
      exact List.take_left
  have hnew : ∀ c,RowOf w v (.slice (some ⟨w.heap.size,0,none⟩) (n + s.size) c) := fun c => .inr fun q hq => by obtain rfl := Option.some.inj hq;exact Nat.le_refl _
  rcases hown.2 with ⟨rfl,rfl⟩ | ⟨g,cap,cur,rfl,hbg,hg,hnc,hcm,hcs,htake⟩
  · have hx : xs = [] := List.eq_nil_of_length_eq_zero hxl
    subst hx
    by_cases hm : s.size = 0
    · have hn : strCells s = [] := List.eq_nil_of_length_eq_zero (by rw [strCells_length];exact hm)
      refine ⟨.slice none 0 0,w,?_,by rw [hm,hn];exact World.ownsRow_nil w base e 1,⟨rfl,rfl,rfl,Nat.le_refl _,fun _ _ _ => rfl⟩,.inl rfl⟩
      have hf := run_firstCells_string (P := P) w 1 s
      rw [hm] at hf
      simp [Builtin.append_,run_underlying ht,run_underlying hu,sizeOf,typeInfo,hi,hsize,Builtin.lenOf,hm,hf]
    · have hr := run_append_nil_string (P := P) w t u ty e i (.int .u8 0) ht hu hi hz s (by omega) (by omega) (by rw [hby];omega)
      have hgr := grown 0 (Value.ownBlock (.slice none 0 0))
      simp only [Nat.zero_add,List.nil_append,Array.empty_append] at hgr ⊢
      have e1 : (s.data.map fun b => Value.int .u8 b.toNat) = (strCells s).toArray := by
        apply Array.ext'
        simp [strCells]
      rw [e1] at hr
      exact ⟨_,_,hr,hgr.1,hgr.2,.inr fun q hq => by obtain rfl := Option.some.inj hq;exact Nat.le_refl _⟩
  · by_cases hroom : n + s.size ≤ cap
    · have hcs' : cur.size = cap := by simpa using hcs
      have hr := run_append_room_string (P := P) w t u ty e i ht hu hi hsize g n cap cur hg s hroom (by omega)
      refine ⟨_,_,hr,⟨hlen,.inr ⟨g,cap,_,rfl,hbg,setRow_heap w g cur _ e _ hg,hroom,hcm,?_,?_⟩⟩,⟨rfl,rfl,rfl,by simp,fun k _ hk => setRow_other w g k _ (fun e => hk (by simp [Value.ownBlock,e]))⟩,.inl rfl⟩
      · simp only [List.size_toArray,List.length_append,List.length_take,List.length_drop,Array.length_toList,strCells_length]
        omega
      · have ht' : cur.toList.take n = xs := by simpa using htake
        rw [ht',← hlen]
        exact List.take_left
    · have holds : ∀ j u,xs[j]? = some u → w.cell? ((⟨g,0,none⟩ : Addr).add j) = some u := hown.cells (g := g) rfl
      have hr := run_append_grow_string (P := P) w t u ty e i (.int .u8 0) ht hu hi hz ⟨g,0,none⟩ n cap xs (by rw [hsize];simpa using hxl) holds s (by omega) (by omega) (by rw [hby];exact growslice_fits (by omega) (by omega))
      have hgr := grown cap (Value.ownBlock (.slice (some ⟨g,0,none⟩) n cap))
      exact ⟨_,_,hr,hgr.1,hgr.2,hnew _⟩
theorem wpList_append_string {ops : Array Oper} {rest : List Oper} {o : Oper} {a : Act} {Q : Exit → Act → World → Prop} (hgd : o.guard = none) (sl x : Operand) (t u : TypeId)
    (ho : o.op = .call { callee := .builtin .append,args := #[sl,x],argTypes := #[t,u] }) (base : Nat) (e : TypeId) (i : TypeInfo) (ht : P.underlying t = some (.slice e)) (hu : P.underlying u = some .string) (hi : P.info? e = some i) (hz : i.zero = some (.int .u8 0))
    (hsize : i.size = 1) (hby : i.bytes = 1) (v : Value) (n : Nat) (xs : List Value) (hs : a.eval sl = v) (hown : w.ownsRow base e 1 v n xs) (s : ByteArray) (hx : a.eval x = .string s) (h63 : n + s.size ≤ 1099511627776) (hbase : base ≤ w.heap.size)
    (h : ∀ v' w',w'.ownsRow base e 1 v' (n + s.size) (xs ++ strCells s) → w.grownBy w' v.ownBlock → RowOf w v v' → wpList P ops Q rest (a.put o.dst v') w') : wpList P ops Q (o :: rest) a w := by
  refine wpList_plain hgd fun K hK => ?_
  obtain ⟨v',w',hr,h2,h3,h4⟩ := run_append_string_at (P := P) (ty := o.type) ht hu hi hz hsize hby hown s h63 hbase
  unfold Oper.wp execOp
  simp only [ho,resolve,invoke,builtin,Sem.run_bind,Sem.run_pure,Result.andThen_ok,List.map_toArray,List.map_cons,List.map_nil,hs,hx,hr]
  exact hK _ _ (h v' w' h2 h3 h4)
end
def BytesPost (B : Nat) (v : Value) (bs : Bytes) (w : World) (e : Ending) (w' : World) : Prop := ∃ v',e = .returned v' ∧ OwnB B w' v' bs ∧ w.grownBy w' v.ownBlock ∧ RowOf w v v'
theorem infoU8 : ∃ i,Tryz.prog.info? 5 = some i ∧ i.zero = some (.int .u8 0) ∧ i.size = 1 ∧ i.bytes = 1 := by
  have h : (Tryz.prog.info? 5).map (fun i => (i.zero,i.size,i.bytes)) = some (some (.int .u8 0),1,1) := by kernel_rfl
  obtain ⟨i,h1,h2,h3,h4⟩ := info_parts h
  exact ⟨i,h1,h2,h3,h4⟩
set_option maxRecDepth 100000 in
set_option maxHeartbeats 4000000 in
theorem textCalls (B : Nat) (v : Value) (bs : Bytes) (s : Str) (w : World) (ho : OwnB B w v bs) (hl : bs.length ≤ 1073741824) (hs : s.size ≤ 1073741824) (hB : B ≤ w.heap.size) :
    Calls Tryz.prog 115 #[v,.string s] w (BytesPost B v (bs ++ textB s) w) := by
  obtain ⟨i,q1,q2,q3,q4⟩ := infoU8
  have HO := Lib.hid ho
  have hw := u8_wrap s.size
  have e2 : (bs ++ [UInt8.ofNat s.size]) ++ s.data.toList = bs ++ textB s := by unfold textB;rw [List.append_assoc];rfl
  have hsl := str_len s
  clear ho
  go_enter Tryz.func115,Tryz.ntmps115
  go_wp2_with (first
    | (at_builtin;have hh := HO2.out;clear hh;refine wpList_append_string (by rfl) _ _ 29 9 (by rfl) B 5 i Tryz.underlying29 Tryz.underlying9 q1 q2 q3 q4 _ _ _ (by rfl) (ownB_iff.1 HO2.out) s (by rfl) (by simp;omega) (Nat.le_trans hB HG2.out.size) ?_;intro v3 w3 ho3 hg3 hr3;rw [strCells_is,← List.map_append,e2,show (bs ++ [UInt8.ofNat s.size]).length + s.size = (bs ++ textB s).length by rw [← e2,List.length_append (bs := s.data.toList),hsl]] at ho3;have HO3 := Lib.hid (ownB_iff.2 ho3);have HG3 := Lib.hid (HR2.out.grown HG2.out hg3);have HR3 := Lib.hid (HR2.out.trans HG2.out.size hr3);clear ho3 hg3 hr3)
    | (at_builtin;refine wpList_append_one (B := B) (e := 5) (S := fun _ => False) (by rfl) _ _ 29 (by rfl) RU8.steady rowU8 _ bs (by rfl) (HO.out.alloc RU8.steady _) w.heap.size 1 #[u8v (UInt8.ofNat s.size)] 5 (0,0) (UInt8.ofNat s.size) (by rfl) (heap_alloc_new w _) rfl (by simp [Value.oneCell',u8v]) rfl (by omega) (by simp;omega) ?_;intro v2 w2 ho2 hg2 hat2;have HO2 := Lib.hid ho2;have HG2 := Lib.hid (grown_trans (grown_below ((Below.refl w.heap.size w).alloc (Nat.le_refl _) _) v.ownBlock) hg2 (.inl rfl));have HR2 := Lib.hid (show RowOf w v v2 from hat2.elim .inl fun e => .inr fun q hq => by rw [e] at hq;obtain rfl := Option.some.inj hq;simp);clear ho2 hg2 hat2))
  go_ret
  exact ⟨v3,rfl,HO3.out,HG3.out,HR3.out⟩
end Go.Proofs.YtiiicochdidolaaGreat
namespace Go.Proofs.YtiiicochdidolaaGreat
open Go.RowKit
def Rr (B : Nat) (s : RdB) (w : World) : Prop := ∃ v,Blk w B 109 #[v,.bool s.ok] ∧ RdBytes (fun b => b < B) w v s.b
theorem Rr.grown {B : Nat} {s : RdB} {w w' : World} (h : Rr B s w) (hb : Below w.heap.size w w') : Rr B s w' := by
  obtain ⟨v,h1,h2⟩ := h
  exact ⟨v,h1.below hb h1.lt,h2.agree RU8.steady (Below.agree hb)⟩
theorem Rr.alloc {B : Nat} {s : RdB} {w : World} (h : Rr B s w) (o : Obj) : Rr B s (w.alloc o) := h.grown ((Below.refl _ _).alloc (Nat.le_refl _) o)
theorem Rr.drew {B : Nat} {s : RdB} {w : World} (h : Rr B s w) : Rr B s w.drew := h.grown (Below.refl _ _).drew
theorem Rr.lt {B : Nat} {s : RdB} {w : World} (h : Rr B s w) : B < w.heap.size := by obtain ⟨v,h1,-⟩ := h;exact h1.lt
theorem Rr.setCell {B : Nat} {s : RdB} {w : World} (h : Rr B s w) {p : Addr} (hp : B < p.block) (u : Value) : Rr B s (w.setCell p u) := by
  obtain ⟨v,h1,h2⟩ := h
  exact ⟨v,h1.far (by omega) u,h2.agree RU8.steady (Agree.setCell (by omega) u)⟩
theorem byteD_lt (s : RdB) : (byteD s).1 < 256 := by
  obtain ⟨b,o⟩ := s
  cases b with
  | nil => exact Nat.zero_lt_succ _
  | cons x r => exact x.toNat_lt
def RPost (B : Nat) (v : Value) (s : RdB) (w : World) (e : Ending) (w' : World) : Prop := e = .returned v ∧ Rr B s w' ∧ But B w w'
theorem rdBytes_set {B : Nat} {w : World} {v : Value} {bs : Bytes} {p : Addr} (h : RdBytes (fun b => b < B) w v bs) (hp : p.block = B) (u : Value) : RdBytes (fun b => b < B) (w.setCell p u) v bs := h.agree RU8.steady (Agree.setCell (by omega) u)
theorem rr_set0 {B : Nat} {ok : Bool} {w : World} {v v' : Value} {bs : Bytes} (h : Blk w B 109 #[v,.bool ok]) (hr : RdBytes (fun b => b < B) w v' bs) : Rr B ⟨bs,ok⟩ (w.setCell ⟨B,0,none⟩ v') := ⟨v',h.set_ 0 _,rdBytes_set hr rfl _⟩
theorem rr_set1 {B : Nat} {ok : Bool} {w : World} {v : Value} {bs : Bytes} (h : Blk w B 109 #[v,.bool ok]) (hr : RdBytes (fun b => b < B) w v bs) (k : Bool) : Rr B ⟨bs,k⟩ (w.setCell ⟨B,1,none⟩ (.bool k)) := ⟨v,h.set_ 1 _,rdBytes_set hr rfl _⟩
attribute [local go_sem ↓] Go.wp_at_zero Go.wp_at_succ
set_option maxRecDepth 100000 in
set_option maxHeartbeats 4000000 in
theorem byteCalls (B : Nat) (s : RdB) (w : World) (h : Rr B s w) : Calls Tryz.prog 41 #[.pointer (some ⟨B,0,none⟩)] w (RPost B (.int .i64 (byteD s).1) (byteD s).2 w) := by
  obtain ⟨bs,ok⟩ := s
  obtain ⟨v,h1,h2⟩ := h
  dsimp only at h1 h2
  have HX := Lib.hid h1
  have hf0 := h1.frozen 0
  have hf1 := h1.frozen 1
  have c0 := h1.cell 0
  have c1 := h1.cell 1
  simp only [List.getElem?_toArray,List.getElem?_cons_zero,List.getElem?_cons_succ] at c0 c1
  have HR := Lib.hid h2
  clear h1 h2
  cases bs with
  | nil =>
    obtain ⟨a,c,rfl,-,-,-⟩ := id HR.out.form
    dsimp only [List.length_nil] at *
    go_enter Tryz.func41,Tryz.ntmps41
    go_wp2
    go_ret
    exact ⟨rfl,rr_set1 HX.out HR.out false,(But.refl _ _).setCell (.inl rfl) _⟩
  | cons x r =>
    obtain ⟨a,c,hv,hcl,hcm,-⟩ := id HR.out.form
    subst hv
    obtain ⟨b,o,rfl,hb,d0⟩ : ∃ b o,a = some ⟨b,o,none⟩ ∧ b < B ∧ w.cell? ⟨b,o,none⟩ = some (u8v x) := by
      obtain ⟨a',c',hv,-,-,-,h3⟩ := HR.out
      injection hv with e1 e2 e3
      subst e1 e3
      obtain ⟨b,o,cs,ha,hS,-,-,hc,hx⟩ := h3 0 x rfl
      exact ⟨b,o,ha,hS,by simpa using hc 0 (u8v x) (by rw [hx];rfl)⟩
    obtain ⟨n,hn⟩ : ∃ n,n = r.length := ⟨_,rfl⟩
    rw [List.length_cons,← hn] at c0 HX HR hcl
    have HD := Lib.hid (HR.out.drop_some (j := 1) (by simp))
    have HV := Lib.hid (show u8v x = .int .u8 x.toNat from rfl)
    rw [HV.out] at d0
    have hx1 : (x.toNat : Int) < 256 := by have := x.toNat_lt;omega
    have n0 : (0 : Int) < (n : Int) + 1 := by omega
    have n1 : (1 : Int) ≤ (n : Int) + 1 := by omega
    have n2 : ((n + 1 : Nat) : Int) = (n : Int) + 1 := rfl
    have n3 : ¬ ((n : Int) + 1 = 0) := by omega
    have HN := Lib.hid hn
    clear hn hcm
    by_cases hc1 : c = 1
    all_goals
      first | (subst hc1;rw [if_pos rfl] at HD) | rw [if_neg hc1] at HD
      go_enter Tryz.func41,Tryz.ntmps41
      go_wp2
      go_ret
      exact ⟨rfl,rr_set0 HX.out (by first | (rw [HN.out];simpa using HD.out) | (have h0 : r.length = 0 := (by have := HN.out;omega);obtain rfl := List.length_eq_zero_iff.1 h0;simpa using HD.out)),(But.refl _ _).setCell (.inl rfl) _⟩
set_option maxRecDepth 100000 in
theorem rd_conv {B : Nat} {w : World} {a : Option Addr} {n c : Nat} {bs : Bytes} (h : RdBytes (fun b => b < B) w (.slice a n c) bs) (hn : bs.length = n) :
    (convert 29 9 (.slice a n c)).run Tryz.prog w = .ok (.string (strOf bs)) w := by
  subst hn
  obtain ⟨a',c',hv,-,-,-,h3⟩ := h
  injection hv with e1 e2 e3
  subst e1 e3
  cases a with
  | none =>
    have h0 : bs = [] := by
      cases bs with
      | nil => rfl
      | cons x r => obtain ⟨b,o,cs,ha,-⟩ := h3 0 x rfl;cases ha
    subst h0
    exact run_convert_bytes_nil w 29 5 Tryz.underlying29 Tryz.underlying5 0 c 9 Tryz.underlying9
  | some p =>
    refine run_convert_bytes_back w 29 9 5 p c bs Tryz.underlying29 Tryz.underlying5 Tryz.underlying9 fun j hj => ?_
    obtain ⟨b,o,cs,ha,-,-,-,hc,hx⟩ := h3 j bs[j] (List.getElem?_eq_getElem hj)
    obtain rfl := Option.some.inj ha
    have h4 := hc 0 (u8v bs[j]) (by rw [hx];rfl)
    have e : (⟨b,o,none⟩ : Addr).add j = ⟨b,o + j * 1 + 0,none⟩ := by unfold Addr.add;split <;> simp_all
    rw [e]
    exact h4
set_option maxRecDepth 100000 in
set_option maxHeartbeats 4000000 in
theorem rtextCalls (B : Nat) (s : RdB) (w : World) (h : Rr B s w) : Calls Tryz.prog 78 #[.pointer (some ⟨B,0,none⟩)] w (RPost B (.string (textD s).1) (textD s).2 w) := by
  have KB := Lib.hid (byteCalls B s w h)
  have hlt := byteD_lt s
  unfold textD
  rcases hbd : byteD s with ⟨n,s1⟩
  rw [hbd] at KB hlt
  dsimp only at KB hlt ⊢
  clear h hbd
  by_cases hlen : s1.b.length < n
  · rw [if_pos hlen]
    have h1 : (s1.b.length : Int) < (n : Int) := by omega
    clear hlen
    go_enter Tryz.func78,Tryz.ntmps78
    go_wp2_with (go_at_call 41;refine (KB.out).mono ?_;rintro e w1 ⟨rfl,hr1,hb1⟩;obtain ⟨v1,hx1,hy1⟩ := hr1;have HX1 := Lib.hid hx1;have HY1 := Lib.hid hy1;have HB1 := Lib.hid hb1;obtain ⟨a,c,rfl,-,-,-⟩ := id hy1.form;have f0 := hx1.frozen 0;have f1 := hx1.frozen 1;have c0 := hx1.cell 0;have c1 := hx1.cell 1;simp only [List.getElem?_toArray,List.getElem?_cons_zero,List.getElem?_cons_succ] at c0 c1;clear hx1 hy1 hb1)
    go_ret
    exact ⟨rfl,rr_set1 HX1.out HY1.out false,HB1.out.setCell (.inl rfl) _⟩
  · rw [if_neg hlen]
    have h1 : ¬ (s1.b.length : Int) < (n : Int) := by omega
    have h2 : (n : Int) ≤ (s1.b.length : Int) := by omega
    have h0 : (0 : Int) ≤ (n : Int) := by omega
    go_enter Tryz.func78,Tryz.ntmps78
    go_wp2_with (go_at_call 41;refine (KB.out).mono ?_;rintro e w1 ⟨rfl,hr1,hb1⟩;obtain ⟨v1,hx1,hy1⟩ := hr1;have HX1 := Lib.hid hx1;have HY1 := Lib.hid hy1;have HB1 := Lib.hid hb1;obtain ⟨a,c,rfl,hc1,-,-⟩ := id hy1.form;have f0 := hx1.frozen 0;have f1 := hx1.frozen 1;have c0 := hx1.cell 0;have c1 := hx1.cell 1;simp only [List.getElem?_toArray,List.getElem?_cons_zero,List.getElem?_cons_succ] at c0 c1;have hcn : (n : Int) ≤ (c : Int) := (by omega);have KV := rd_conv (RdSlice.take hy1 (j := n) (by omega)) (by rw [List.length_take];omega);clear hx1 hy1 hb1)
    all_goals
      go_ret
      have hd := HY1.out.drop (j := n) (by omega)
      have e0 : c = n → c - n = 0 := by omega
      first
        | (rw [if_pos (by assumption),e0 (by assumption)] at hd;exact ⟨rfl,rr_set0 HX1.out (by simpa using hd),HB1.out.setCell (.inl rfl) _⟩)
        | (rw [if_neg (by assumption)] at hd;exact ⟨rfl,rr_set0 HX1.out (by simpa using hd),HB1.out.setCell (.inl rfl) _⟩)
end Go.Proofs.YtiiicochdidolaaGreat
