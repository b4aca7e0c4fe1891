/-
  THE TEXTS RoundQ, DeskB, RoundS, ProofP, Lit, MatchN, one behind the other.
-/
import Derived.Test.YtiiicochdidolaaGreatPk1
import Derived.Test.YtiiicochdidolaaGreatPk2
import Derived.Test.YtiiicochdidolaaGreatPk6
import Derived.Test.YtiiicochdidolaaGreatPk7
import Derived.Test.YtiiicochdidolaaGreatPk8
namespace Go.Proofs.YtiiicochdidolaaGreat
def Makes (r : PRule) (known new : List PFact) (x : PFact) : Prop :=
  (∃ (i : Nat) (a : PAtom) (m : Binds), r.body[i]? = some a ∧ a.neg = false ∧ Told (pickP known new (i : Int)) r.body m ∧ fillP r.head m = some x) ∨ ((∀ a ∈ r.body, a.neg = true) ∧ Derives r known x)
theorem with_much {b : List PAtom} {known new : List PFact} {i : Int} (hb : bodyBad b = 0) (hk : (setF known).1 = 0) (hn : (setF new).1 = 0) (h : (withP b known i new).2 ≠ 0) : (withP b known i new).2 = 4 := by
  unfold withP at *
  rw [if_neg (by simpa using hb), if_neg (by simpa using hk), if_neg (by simpa using hn)] at *
  cases hg : goP (pickP known new i) 0 [[]] b with
  | none => rfl
  | some ls => rw [hg] at h; exact absurd rfl h
theorem newP_cases {x : PRule} {known new : List PFact} (hb : bodyBad x.body = 0) (hk : (setF known).1 = 0) (hn : (setF new).1 = 0) : ∀ (b : List PAtom) (i : Nat) (out : List PFact) (sm : Bool), x.body.drop i = b →
    (newP x known new i b out sm).2 = 4 ∨
    (newP x known new i b out sm).2 = 0 ∧ (sm = true ∨ ∃ a ∈ b, a.neg = false) ∧ (∀ f, f ∈ (newP x known new i b out sm).1 ↔ f ∈ out ∨ ∃ (j : Nat) (a : PAtom) (m : Binds), i ≤ j ∧ x.body[j]? = some a ∧ a.neg = false ∧ Told (pickP known new (j : Int)) x.body m ∧ fillP x.head m = some f) ∨
    sm = false ∧ (∀ a ∈ b, a.neg = true) ∧ newP x known new i b out sm = headsP x known
  | [], i, out, sm, hd => by
    rw [newP]
    cases sm
    · exact .inr (.inr ⟨rfl, fun a ha => by simp at ha, rfl⟩)
    · refine .inr (.inl ⟨rfl, .inl rfl, fun f => ?_⟩)
      refine ⟨fun h => .inl h, fun h => ?_⟩
      rcases h with h | ⟨j, a, m, hj, ha, -⟩
      · exact h
      · have hlen : x.body.length ≤ i := List.drop_eq_nil_iff.1 hd
        have := (List.getElem?_eq_some_iff.1 ha).1
        omega
  | a :: b, i, out, sm, hd => by
    have hai : x.body[i]? = some a := by
      have := congrArg (fun l => l[0]?) hd
      simpa using this
    have hd' : x.body.drop (i + 1) = b := by
      have := congrArg (fun l => l.drop 1) hd
      simpa [List.drop_drop] using this
    rw [newP]
    cases hneg : a.neg
    case true =>
      rw [if_pos rfl]
      rcases newP_cases hb hk hn b (i + 1) out sm hd' with h | ⟨h0, h1, h2⟩ | ⟨h1, h2, h3⟩
      · exact .inl h
      · refine .inr (.inl ⟨h0, ?_, fun f => ?_⟩)
        · rcases h1 with h1 | ⟨c, hc, hc'⟩
          · exact .inl h1
          · exact .inr ⟨c, List.mem_cons_of_mem _ hc, hc'⟩
        · rw [h2]
          refine or_congr_right ⟨fun ⟨j, c, m, hj, hr⟩ => ⟨j, c, m, by omega, hr⟩, fun ⟨j, c, m, hj, hc, hcn, hr⟩ => ⟨j, c, m, ?_, hc, hcn, hr⟩⟩
          by_cases e : j = i
          · subst e; rw [hai] at hc; injection hc with hc; subst hc; rw [hneg] at hcn; cases hcn
          · omega
      · exact .inr (.inr ⟨h1, fun c hc => by
          rcases List.mem_cons.1 hc with rfl | hc
          · exact hneg
          · exact h2 c hc, h3⟩)
    case false =>
      rw [if_neg (by simp)]
      by_cases he : (withP x.body known (i : Int) new).2 = 0
      case neg => rw [if_pos he]; exact .inl (with_much hb hk hn he)
      rw [if_neg (by simpa using he)]
      have hT : ∀ m, m ∈ (withP x.body known (i : Int) new).1 ↔ Told (pickP known new (i : Int)) x.body m := by
        rcases withP_cases x.body known (i : Int) new with ⟨h, -⟩ | ⟨-, -, -, -, -, h⟩
        · exact absurd he h
        · exact h
      rcases newP_cases hb hk hn b (i + 1) (out ++ fillAll x.head (withP x.body known (i : Int) new).1) true hd' with h | ⟨h0, h1, h2⟩ | ⟨h1, -⟩
      · exact .inl h
      · refine .inr (.inl ⟨h0, .inr ⟨a, by simp, hneg⟩, fun f => ?_⟩)
        rw [h2, List.mem_append]
        constructor
        · rintro ((h | h) | ⟨j, c, m, hj, hr⟩)
          · exact .inl h
          · obtain ⟨m, hm, hf⟩ := List.mem_filterMap.1 h
            exact .inr ⟨i, a, m, Nat.le_refl _, hai, hneg, (hT m).1 hm, hf⟩
          · exact .inr ⟨j, c, m, by omega, hr⟩
        · rintro (h | ⟨j, c, m, hj, hc, hcn, ht, hf⟩)
          · exact .inl (.inl h)
          · by_cases e : j = i
            · subst e
              exact .inl (.inr (List.mem_filterMap.2 ⟨m, (hT m).2 ht, hf⟩))
            · exact .inr ⟨j, c, m, by omega, hc, hcn, ht, hf⟩
      · cases h1
theorem newHeads_cases {x : PRule} {known new : List PFact} (hb : bodyBad x.body = 0) (hk : (setF known).1 = 0) (hn : (setF new).1 = 0) :
    (newHeads x known new).2 = 4 ∨ (newHeads x known new).2 = 0 ∧ ∀ f, f ∈ (newHeads x known new).1 ↔ Makes x known new f := by
  unfold newHeads
  rcases newP_cases hb hk hn x.body 0 [] false (by simp) with h | ⟨h0, h1, h2⟩ | ⟨-, h2, h3⟩
  · exact .inl h
  · refine .inr ⟨h0, fun f => ?_⟩
    rw [h2]
    constructor
    · rintro (h | ⟨j, c, m, -, hr⟩)
      · simp at h
      · exact .inl ⟨j, c, m, hr⟩
    · rintro (⟨j, c, m, hr⟩ | ⟨h, -⟩)
      · exact .inr ⟨j, c, m, Nat.zero_le _, hr⟩
      · rcases h1 with h1 | ⟨a, ha, han⟩
        · cases h1
        · rw [h a ha] at han; cases han
  · rw [h3]
    by_cases he : (headsP x known).2 = 0
    · refine .inr ⟨he, fun f => ?_⟩
      rw [mem_heads he]
      constructor
      · exact fun h => .inr ⟨h2, h⟩
      · rintro (⟨j, c, m, hc, hcn, -⟩ | ⟨-, h⟩)
        · rw [h2 c (List.mem_of_getElem? hc)] at hcn; cases hcn
        · exact h
    · exact .inl (heads_much hb hk he)
def MakesS (ps : List (PRule × Int)) (s : Int) (known new : List PFact) (x : PFact) : Prop := ∃ r t, (r, t) ∈ ps ∧ t = s ∧ Makes r known new x
theorem makeP_cases {s : Int} {known new : List PFact} (hk : (setF known).1 = 0) (hn : (setF new).1 = 0) : ∀ {ps : List (PRule × Int)} {made : List PFact}, (∀ r t, (r, t) ∈ ps → bodyBad r.body = 0) →
    (makeP s known new ps made).2 = 4 ∨ (makeP s known new ps made).2 = 0 ∧ ∀ f, f ∈ (makeP s known new ps made).1 ↔ f ∈ made ∨ MakesS ps s known new f
  | [], made, _ => .inr ⟨rfl, fun f => ⟨.inl, fun h => by
      rcases h with h | ⟨r, t, h, -⟩
      · exact h
      · simp at h⟩⟩
  | (r, t) :: ps, made, hb => by
    have hb' : ∀ r t, (r, t) ∈ ps → bodyBad r.body = 0 := fun r t h => hb r t (List.mem_cons_of_mem _ h)
    rw [makeP]
    by_cases ht : t = s
    case neg =>
      rw [if_pos ht]
      rcases makeP_cases (made := made) hk hn hb' with h | ⟨h0, h1⟩
      · exact .inl h
      · refine .inr ⟨h0, fun f => ?_⟩
        rw [h1]
        refine or_congr_right ⟨fun ⟨r', t', hm, hr⟩ => ⟨r', t', List.mem_cons_of_mem _ hm, hr⟩, fun ⟨r', t', hm, e, hr⟩ => ?_⟩
        rcases List.mem_cons.1 hm with hm | hm
        · injection hm with _ h2; subst h2; exact absurd e ht
        · exact ⟨r', t', hm, e, hr⟩
    rw [if_neg (by simpa using ht)]
    rcases newHeads_cases (hb r t (by simp)) hk hn with h | ⟨h0, h1⟩
    · rw [if_pos (by rw [h]; decide)]; exact .inl h
    rw [if_neg (by simpa using h0)]
    rcases makeP_cases (made := made ++ (newHeads r known new).1) hk hn hb' with h | ⟨g0, g1⟩
    · exact .inl h
    · refine .inr ⟨g0, fun f => ?_⟩
      rw [g1, List.mem_append, h1]
      constructor
      · rintro ((h | h) | ⟨r', t', hm, hr⟩)
        · exact .inl h
        · exact .inr ⟨r, t, by simp, ht, h⟩
        · exact .inr ⟨r', t', List.mem_cons_of_mem _ hm, hr⟩
      · rintro (h | ⟨r', t', hm, e, hr⟩)
        · exact .inl (.inl h)
        · rcases List.mem_cons.1 hm with hm | hm
          · injection hm with h2 _; subst h2; exact .inl (.inr hr)
          · exact .inr ⟨r', t', hm, e, hr⟩
theorem Makes.derives {r : PRule} {known new : List PFact} {x : PFact} (hs : ∀ y ∈ new, y ∈ known) (h : Makes r known new x) : Derives r known x := by
  rcases h with ⟨i, a, m, ha, hneg, ⟨h1, h2, h3, h4⟩, hf⟩ | ⟨-, h⟩
  · refine ⟨m, ⟨h1, h2, h3, fun j c hc => ?_⟩, hf⟩
    obtain ⟨f, k1, k2⟩ := h4 j c hc
    refine ⟨f, k1, ?_⟩
    unfold pickP at k2
    by_cases e : (j : Int) = (i : Int)
    · rw [if_pos e] at k2
      have e' : j = i := by omega
      subst e'
      rw [ha] at hc; injection hc with hc; subst hc
      rw [hneg] at k2 ⊢
      exact (memF_iff f known).2 (hs f ((memF_iff f new).1 k2))
    · rw [if_neg e] at k2; exact k2
  · exact h
theorem in_lessF (l m : List PFact) (x : PFact) : x ∈ lessF l m ↔ x ∈ l ∧ x ∉ m := by
  unfold lessF
  rw [List.mem_filter]
  refine and_congr_right fun _ => ?_
  rw [← memF_iff x m]
  cases memF x m <;> simp
theorem lessF_up {l m : List PFact} (h : Rising l) : Rising (lessF l m) := List.Pairwise.filter _ h
theorem joinF_nil {l : List PFact} (h : Rising l) : joinF l [] = l := rising_ext (ofF_rising _) h fun x => by rw [mem_joinF]; simp
structure Stepped (ps : List (PRule × Int)) (n : Int) (r r' : PRun) : Prop where
  mem : ∀ x, x ∈ r'.known ↔ x ∈ r.known ∨ MakesS ps r.stratum r.known r.new x
  rise : Rising r'.known
  len : r'.known.length ≤ 200
  rnew : Rising r'.new
  rounds : r'.rounds = r.rounds + 1
  how : (r'.known = r.known ∧ r'.new = r.known ∧ r'.stratum = r.stratum + 1 ∧ r'.done = (r.stratum + 1 == n)) ∨
    (r'.stratum = r.stratum ∧ r'.done = false ∧ (∃ x, x ∈ r'.new) ∧ ∀ x, x ∈ r'.new ↔ x ∈ r'.known ∧ x ∉ r.known)
structure Ruled (st : List Int) (p : List PRule) : Prop where
  rules : ∀ r ∈ p, ruleBad r = 0
  arity : Arity p
theorem Ruled.body {st : List Int} {p : List PRule} (h : Ruled st p) {r : PRule} {t : Int} (hm : (r, t) ∈ p.zip st) : bodyBad r.body = 0 := (ruleBad_zero (h.rules r (List.of_mem_zip hm).1)).2.2.1
theorem step_cases {st : List Int} {p : List PRule} (hR : Ruled st p) {r : PRun} (h : RunOk st p r) (hd : r.done = false) :
    goodStep st p r = (zeroRun, 4) ∨ (goodStep st p r = (zeroRun, 5) ∧ (r.rounds = 1000 ∨ ∃ l, Rising l ∧ 200 < l.length ∧ ∀ x, x ∈ l ↔ x ∈ r.known ∨ MakesS (p.zip st) r.stratum r.known r.new x)) ∨
    ((goodStep st p r).2 = 0 ∧ r.rounds ≠ 1000 ∧ Stepped (p.zip st) (countP st) r (goodStep st p r).1) := by
  have hk : (setF r.known).1 = 0 := by rw [h.known.set]
  have hn : (setF r.new).1 = 0 := by rw [h.new.set]
  unfold goodStep
  rw [hd, if_neg (by decide)]
  by_cases h1 : r.rounds = 1000
  · rw [if_pos h1]; exact .inr (.inl ⟨rfl, .inl h1⟩)
  rw [if_neg h1]
  rcases makeP_cases (s := r.stratum) (made := []) (ps := p.zip st) hk hn (fun r t hm => hR.body hm) with h2 | ⟨h2, h3⟩
  · rw [if_pos (by rw [h2]; decide), h2]; exact .inl rfl
  rw [if_neg (by simpa using h2)]
  generalize (makeP r.stratum r.known r.new (p.zip st) []).1 = made at h3
  have hM : ∀ x, x ∈ joinF r.known (lessF (ofF made) r.known) ↔ x ∈ r.known ∨ MakesS (p.zip st) r.stratum r.known r.new x := fun x => by
    rw [mem_joinF, in_lessF, mem_ofF, h3]
    constructor
    · rintro (h | ⟨h | h, -⟩)
      · exact .inl h
      · simp at h
      · exact .inr h
    · rintro (h | h)
      · exact .inl h
      · by_cases hx : x ∈ r.known
        · exact .inl hx
        · exact .inr ⟨.inr h, hx⟩
  by_cases h4 : 200 < (joinF r.known (lessF (ofF made) r.known)).length
  · rw [if_pos h4]; exact .inr (.inl ⟨rfl, .inr ⟨_, ofF_rising _, h4, hM⟩⟩)
  rw [if_neg h4]
  refine .inr (.inr ⟨rfl, h1, ?_⟩)
  show Stepped _ _ _ (nextRun (countP st) r made)
  unfold nextRun
  by_cases h5 : lessF (ofF made) r.known = []
  · rw [if_pos h5]
    have e : joinF r.known (lessF (ofF made) r.known) = r.known := by rw [h5, joinF_nil h.known.rise]
    rw [e] at hM h4 ⊢
    exact ⟨hM, h.known.rise, by show r.known.length ≤ 200; omega, h.known.rise, rfl, .inl ⟨rfl, rfl, rfl, rfl⟩⟩
  · rw [if_neg h5]
    refine ⟨hM, ofF_rising _, by show (joinF r.known (lessF (ofF made) r.known)).length ≤ 200; omega, lessF_up (ofF_rising _), rfl, .inr ⟨rfl, rfl, List.exists_mem_of_ne_nil _ h5, fun x => ?_⟩⟩
    show x ∈ lessF (ofF made) r.known ↔ x ∈ joinF r.known (lessF (ofF made) r.known) ∧ x ∉ r.known
    rw [mem_joinF, in_lessF]
    constructor
    · rintro ⟨a, b⟩; exact ⟨.inr ⟨a, b⟩, b⟩
    · rintro ⟨a | a, b⟩
      · exact absurd a b
      · exact a
theorem MakesS.derives {ps : List (PRule × Int)} {s : Int} {known new : List PFact} {x : PFact} (hs : ∀ y ∈ new, y ∈ known) (h : MakesS ps s known new x) : ∃ r t, (r, t) ∈ ps ∧ t = s ∧ Derives r known x := by
  obtain ⟨r, t, hm, e, h⟩ := h
  exact ⟨r, t, hm, e, h.derives hs⟩
theorem Stepped.sub {ps : List (PRule × Int)} {n : Int} {r r' : PRun} (h : Stepped ps n r r') : ∀ x ∈ r.known, x ∈ r'.known := fun x hx => (h.mem x).2 (.inl hx)
theorem Stepped.newsub {ps : List (PRule × Int)} {n : Int} {r r' : PRun} (h : Stepped ps n r r') : ∀ x ∈ r'.new, x ∈ r'.known := fun x hx => by
  rcases h.how with ⟨e1, e2, -⟩ | ⟨-, -, -, e⟩
  · rw [e2] at hx; rw [e1]; exact hx
  · exact ((e x).1 hx).1
theorem Stepped.ok {st : List Int} {p : List PRule} (hR : Ruled st p) {r r' : PRun} (h : RunOk st p r) (hd : r.done = false) (h1 : r.rounds ≠ 1000) (hs : Stepped (p.zip st) (countP st) r r') : RunOk st p r' := by
  have hfine : ∀ x ∈ r'.known, wrongF x = 0 ∧ misfit p x = false := fun x hx => by
    rcases (hs.mem x).1 hx with hx | hx
    · exact ⟨h.known.fine x hx, (factsBad_iff.1 h.fit).2 x hx⟩
    · obtain ⟨r0, t, hm, -, hdv⟩ := hx.derives h.sub
      have hr0 := (List.of_mem_zip hm).1
      exact ⟨derives_good (hR.rules r0 hr0) (fun f hf => h.known.fine f hf) hdv, derives_fit hR.arity hr0 hdv⟩
  have hk : Good r'.known := ⟨hs.rise, hs.len, fun x hx => (hfine x hx).1⟩
  have hdn : (r.stratum == countP st) = false := by rw [← h.done]; exact hd
  have hne : r.stratum ≠ countP st := by simpa using hdn
  have h0 := h.s0
  have hs1 := h.s1
  have hr0 := h.r0
  have hr1 := h.r1
  have e := hs.rounds
  refine ⟨hk, factsBad_iff.2 ⟨by rw [hk.set], fun x hx => (hfine x hx).2⟩, ⟨hs.rnew, Nat.le_trans (rising_sub_le hs.rnew hs.newsub) hs.len, fun x hx => (hfine x (hs.newsub x hx)).1⟩, by omega, by omega, ?_, ?_, ?_, hs.newsub⟩
  · rcases hs.how with ⟨-, -, e, -⟩ | ⟨e, -⟩ <;> omega
  · rcases hs.how with ⟨-, -, e, -⟩ | ⟨e, -⟩ <;> omega
  · rcases hs.how with ⟨-, -, e, e2⟩ | ⟨e, e2, -⟩
    · rw [e2, e]
    · rw [e2, e, hdn]
theorem step_good_eq {st : List Int} {p : List PRule} {r : PRun} (h : RunOk st p r) : stepRun st 0 p r = goodStep st p r := by
  unfold stepRun
  rw [if_neg (by rw [runBad_zero.2 ⟨rfl, h⟩]; simp)]
structure Rightly (st : List Int) (p : List PRule) (r r' : PRun) : Prop where
  ok : RunOk st p r'
  grows : ∀ x ∈ r.known, x ∈ r'.known
  done : r.done = true → r' = r
  rounds : r.rounds ≤ r'.rounds
  stratum : r.stratum ≤ r'.stratum
theorem iter_still {st : List Int} {q : Int} {p : List PRule} {r : PRun} (h : r.done = true) : ∀ k, iterP st q p k r = (r, 0)
  | 0 => rfl
  | k + 1 => by rw [iterP, if_pos h]
theorem steps_good {st : List Int} {p : List PRule} {r : PRun} (h : RunOk st p r) {n : Int} (h0 : 0 ≤ n) (h1 : n ≤ 1000) : stepsRun st 0 p r n = iterP st 0 p n.toNat r := by
  unfold stepsRun
  rw [if_neg (by rw [runBad_zero.2 ⟨rfl, h⟩]; simp), if_neg (by omega)]
theorem strata_count {p : List PRule} {st : List Int} {q : Int × Int} (hs : StrataIs p st q) (hq : q.1 = 0) : Ruled st p ∧ 0 ≤ countP st ∧ countP st ≤ 16 ∧ ∃ L, Least p L ∧ st = p.map (fun r => (L r.head.name : Int)) := by
  obtain ⟨h1, h2, L, hL, e⟩ := strata_zero hs hq
  obtain ⟨k1, -, k3⟩ := wrongP_iff.1 h2
  refine ⟨⟨h1, k3⟩, ?_, ?_, L, hL, e⟩
  · rcases count_is st with ⟨-, h⟩ | ⟨x, hx, h⟩
    · omega
    · rw [e] at hx
      obtain ⟨r, -, rfl⟩ := List.mem_map.1 hx
      omega
  · rcases count_is st with ⟨-, h⟩ | ⟨x, hx, h⟩
    · omega
    · rw [e] at hx
      obtain ⟨r, hr, rfl⟩ := List.mem_map.1 hx
      have := hL.bound (D := headsOf p) (fun x hx => hx) (s := r.head.name) (List.mem_map.2 ⟨r, hr, rfl⟩)
      rw [show (headsOf p).length = p.length from List.length_map ..] at this
      omega
theorem begin_ok {p : List PRule} {st : List Int} {q : Int × Int} (hs : StrataIs p st q) {l : List PFact} (h : (beginP st q.1 p l).2 = 0) :
    q.1 = 0 ∧ (factsBad p l).1 = 0 ∧ beginP st q.1 p l = (⟨l, l, 0, 0, countP st == 0⟩, 0) ∧ RunOk st p (beginP st q.1 p l).1 := by
  by_cases h1 : q.1 = 0
  case neg => unfold beginP at h; rw [if_pos h1] at h; exact absurd h h1
  by_cases h2 : (factsBad p l).1 = 0
  case neg => unfold beginP at h; rw [if_neg (by simpa using h1), if_pos h2] at h; exact absurd h h2
  have e : beginP st q.1 p l = (⟨l, l, 0, 0, countP st == 0⟩, 0) := by unfold beginP; rw [if_neg (by simpa using h1), if_neg (by simpa using h2)]
  have hg := good_of (factsBad_set h2)
  obtain ⟨-, c0, -⟩ := strata_count hs h1
  refine ⟨h1, h2, e, ?_⟩
  rw [e]
  exact ⟨hg, h2, hg, by show (0 : Int) ≤ 0; omega, by show (0 : Int) ≤ 1000; omega, by show (0 : Int) ≤ 0; omega, c0, by show (countP st == 0) = ((0 : Int) == countP st); rw [Bool.beq_comm], fun x hx => hx⟩
end Go.Proofs.YtiiicochdidolaaGreat
namespace Go.Proofs.YtiiicochdidolaaGreat
def textB (s : Str) : Bytes := UInt8.ofNat s.size :: s.data.toList
def args8B (l : List Str) : Bytes := l.flatMap textB
def factB (f : PFact) : Bytes := textB f.name ++ (UInt8.ofNat f.args.length :: args8B f.args)
def factsB (l : List PFact) : Bytes := UInt8.ofNat l.length :: l.flatMap factB
def newB (n l : List PFact) : Bytes := l.map fun f => if memF f n then 1 else 0
def runB8 (r : PRun) : Bytes := UInt8.ofNat r.stratum.toNat :: UInt8.ofNat (r.rounds.toNat / 256) :: UInt8.ofNat r.rounds.toNat :: (if r.done then 1 else 0) :: (factsB r.known ++ newB r.new r.known)
def saveP (st : List Int) (q : Int) (p : List PRule) (r : PRun) : Bytes × Int := if runBad st q p r ≠ 0 then ([], runBad st q p r) else (runB8 r, 0)
structure RdB where
  b : Bytes
  ok : Bool
def byteD (s : RdB) : Nat × RdB := match s.b with
  | [] => (0, ⟨[], false⟩)
  | c :: r => (c.toNat, ⟨r, s.ok⟩)
def textD (s : RdB) : Str × RdB := if (byteD s).2.b.length < (byteD s).1 then (⟨#[]⟩, ⟨(byteD s).2.b, false⟩) else (strOf ((byteD s).2.b.take (byteD s).1), ⟨(byteD s).2.b.drop (byteD s).1, (byteD s).2.ok⟩)
def argsD : Nat → RdB → List Str → List Str × RdB
  | 0, s, acc => (acc, s)
  | k + 1, s, acc => if s.ok then argsD k (textD s).2 (acc ++ [(textD s).1]) else (acc, s)
def factD (s : RdB) : PFact × RdB := (⟨(textD s).1, (argsD (byteD (textD s).2).1 (byteD (textD s).2).2 []).1⟩, (argsD (byteD (textD s).2).1 (byteD (textD s).2).2 []).2)
def listD : Nat → RdB → List PFact → List PFact × RdB
  | 0, s, acc => (acc, s)
  | k + 1, s, acc => if s.ok then listD k (factD s).2 (acc ++ [(factD s).1]) else (acc, s)
def factsD (s : RdB) : List PFact × RdB := listD (byteD s).1 (byteD s).2 []
def newD : List PFact → RdB → List PFact → List PFact × RdB
  | [], s, acc => (acc, s)
  | f :: l, s, acc => newD l (if 1 < (byteD s).1 then ⟨(byteD s).2.b, false⟩ else (byteD s).2) (if (byteD s).1 = 1 then acc ++ [f] else acc)
def d1 (b : Bytes) : Nat × RdB := byteD ⟨b, true⟩
def d2 (b : Bytes) : Nat × RdB := byteD (d1 b).2
def d3 (b : Bytes) : Nat × RdB := byteD (d2 b).2
def d4 (b : Bytes) : Nat × RdB := byteD (d3 b).2
def d5 (b : Bytes) : List PFact × RdB := factsD (d4 b).2
def d6 (b : Bytes) : List PFact × RdB := newD (d5 b).1 (d5 b).2 []
def readR (b : Bytes) : PRun := ⟨(d5 b).1, (d6 b).1, ((d1 b).1 : Int), (((d2 b).1 * 256 + (d3 b).1 : Nat) : Int), (d4 b).1 == 1⟩
def formBad (b : Bytes) : Bool := !(d6 b).2.ok || decide (0 < (d6 b).2.b.length) || decide (1 < (d4 b).1)
def loadP (st : List Int) (q : Int) (p : List PRule) (b : Bytes) : PRun × Int := if formBad b then (zeroRun, 2) else if runBad st q p (readR b) ≠ 0 then (zeroRun, runBad st q p (readR b)) else (readR b, 0)
theorem u8_small {n : Nat} (h : n < 256) : (UInt8.ofNat n).toNat = n := by simp; omega
theorem byteD_cons (c : UInt8) (r : Bytes) (o : Bool) : byteD ⟨c :: r, o⟩ = (c.toNat, ⟨r, o⟩) := rfl
theorem str_list (s : Str) : strOf s.data.toList = s := by unfold strOf; rfl
theorem str_len (s : Str) : s.data.toList.length = s.size := by rw [Array.length_toList]; rfl
theorem textD_back {s : Str} (h : s.size < 256) (r : Bytes) : textD ⟨textB s ++ r, true⟩ = (s, ⟨r, true⟩) := by
  unfold textD textB
  rw [List.cons_append, byteD_cons, u8_small h]
  dsimp only
  have hl := str_len s
  rw [if_neg (by rw [List.length_append]; omega), List.take_append_of_le_length (by omega), List.drop_append_of_le_length (by omega), List.take_of_length_le (by omega), List.drop_eq_nil_of_le (by omega), str_list]
  rfl
theorem argsD_back : ∀ (l : List Str) (r : Bytes) (acc : List Str), (∀ a ∈ l, a.size < 256) → argsD l.length ⟨args8B l ++ r, true⟩ acc = (acc ++ l, ⟨r, true⟩)
  | [], r, acc, _ => by simp [argsD, args8B]
  | a :: l, r, acc, h => by
    have e : args8B (a :: l) ++ r = textB a ++ (args8B l ++ r) := by unfold args8B; rw [List.flatMap_cons, List.append_assoc]
    rw [List.length_cons, argsD, e, if_pos rfl, textD_back (h a (by simp))]
    dsimp only
    rw [argsD_back l r _ (fun b hb => h b (by simp [hb])), List.append_assoc]
    rfl
theorem factD_back {f : PFact} (h1 : f.name.size < 256) (h2 : f.args.length < 256) (h3 : ∀ a ∈ f.args, a.size < 256) (r : Bytes) : factD ⟨factB f ++ r, true⟩ = (f, ⟨r, true⟩) := by
  have e : factB f ++ r = textB f.name ++ (UInt8.ofNat f.args.length :: (args8B f.args ++ r)) := by unfold factB; rw [List.append_assoc]; rfl
  unfold factD
  rw [e, textD_back h1]
  dsimp only
  rw [byteD_cons, u8_small h2]
  dsimp only
  rw [argsD_back _ _ _ h3]
  rfl
def Short (f : PFact) : Prop := f.name.size < 256 ∧ f.args.length < 256 ∧ ∀ a ∈ f.args, a.size < 256
theorem listD_back : ∀ (l : List PFact) (r : Bytes) (acc : List PFact), (∀ f ∈ l, Short f) → listD l.length ⟨l.flatMap factB ++ r, true⟩ acc = (acc ++ l, ⟨r, true⟩)
  | [], r, acc, _ => by simp [listD]
  | f :: l, r, acc, h => by
    obtain ⟨h1, h2, h3⟩ := h f (by simp)
    rw [List.length_cons, listD, List.flatMap_cons, List.append_assoc, if_pos rfl, factD_back h1 h2 h3]
    dsimp only
    rw [listD_back l r _ (fun b hb => h b (by simp [hb])), List.append_assoc]
    rfl
theorem factsD_back {l : List PFact} (h : l.length < 256) (hs : ∀ f ∈ l, Short f) (r : Bytes) : factsD ⟨factsB l ++ r, true⟩ = (l, ⟨r, true⟩) := by
  unfold factsD factsB
  rw [List.cons_append, byteD_cons, u8_small h]
  dsimp only
  rw [listD_back l r [] hs]
  rfl
theorem newD_back (n : List PFact) : ∀ (l : List PFact) (r : Bytes) (acc : List PFact), newD l ⟨newB n l ++ r, true⟩ acc = (acc ++ l.filter (fun f => memF f n), ⟨r, true⟩)
  | [], r, acc => by simp [newD, newB]
  | f :: l, r, acc => by
    have e : newB n (f :: l) ++ r = (if memF f n then 1 else 0) :: (newB n l ++ r) := rfl
    rw [newD, e, byteD_cons]
    cases hm : memF f n
    · dsimp only
      rw [if_neg Bool.false_ne_true, if_neg (by decide), if_neg (by decide), newD_back n l r acc, List.filter_cons, hm]
      rfl
    · dsimp only
      rw [if_pos rfl, if_neg (by decide), if_pos (by decide), newD_back n l r _, List.filter_cons, hm, if_pos rfl, List.append_assoc]
      rfl
theorem named_short {s : Str} (h : named s = true) : s.size < 256 := by
  unfold named nameL at h
  have := str_len s
  simp only [Bool.and_eq_true, decide_eq_true_eq] at h
  omega
theorem wrong_short {f : PFact} (h : wrongF f = 0) : Short f := by
  obtain ⟨h1, h2, h3⟩ := wrongF_zero.1 h
  exact ⟨named_short h1, by omega, fun a ha => named_short (h3 a ha)⟩
theorem filter_new {k n : List PFact} (hk : Rising k) (hn : Rising n) (hs : ∀ x ∈ n, x ∈ k) : k.filter (fun f => memF f n) = n :=
  rising_ext (List.Pairwise.filter _ hk) hn fun x => by
    rw [List.mem_filter, memF_iff]
    exact ⟨fun h => h.2, fun h => ⟨hs x h, h⟩⟩
theorem load_save {st : List Int} {q : Int} {p : List PRule} {r : PRun} (hc : countP st ≤ 16) (h : runBad st q p r = 0) : formBad (runB8 r) = false ∧ readR (runB8 r) = r := by
  obtain ⟨rfl, hok⟩ := runBad_zero.1 h
  have hk := hok.known
  have hn := hok.new
  have e1 : d1 (runB8 r) = (r.stratum.toNat, ⟨UInt8.ofNat (r.rounds.toNat / 256) :: UInt8.ofNat r.rounds.toNat :: (if r.done then 1 else 0) :: (factsB r.known ++ newB r.new r.known), true⟩) := by
    unfold d1 runB8; rw [byteD_cons, u8_small (by have := hok.s0; have := hok.s1; omega)]
  have e2 : d2 (runB8 r) = (r.rounds.toNat / 256, ⟨UInt8.ofNat r.rounds.toNat :: (if r.done then 1 else 0) :: (factsB r.known ++ newB r.new r.known), true⟩) := by
    unfold d2; rw [e1]; dsimp only; rw [byteD_cons, u8_small (by have := hok.r0; have := hok.r1; omega)]
  have e3 : d3 (runB8 r) = (r.rounds.toNat % 256, ⟨(if r.done then 1 else 0) :: (factsB r.known ++ newB r.new r.known), true⟩) := by
    unfold d3; rw [e2]; dsimp only; rw [byteD_cons, UInt8.toNat_ofNat']
  have e4 : d4 (runB8 r) = (if r.done then 1 else 0, ⟨factsB r.known ++ newB r.new r.known, true⟩) := by
    unfold d4; rw [e3]; dsimp only; rw [byteD_cons]; cases r.done <;> rfl
  have e5 : d5 (runB8 r) = (r.known, ⟨newB r.new r.known, true⟩) := by
    unfold d5; rw [e4]; dsimp only; rw [factsD_back (by have := hk.len; omega) (fun f hf => wrong_short (hk.fine f hf))]
  have e6 : d6 (runB8 r) = (r.new, ⟨[], true⟩) := by
    have h1 := newD_back r.new r.known [] []
    rw [List.append_nil, List.nil_append, filter_new hk.rise hn.rise hok.sub] at h1
    unfold d6; rw [e5]; exact h1
  refine ⟨?_, ?_⟩
  · unfold formBad; rw [e6, e4]; cases r.done <;> rfl
  · unfold readR
    rw [e1, e2, e3, e4, e5, e6]
    obtain ⟨k, n, s, x, dn⟩ := r
    have h1 := hok.s0
    have h2 := hok.r0
    dsimp only at h1 h2 ⊢
    congr 1
    · omega
    · omega
    · cases dn <;> rfl
theorem load_zero {st : List Int} {q : Int} {p : List PRule} {b : Bytes} (h : (loadP st q p b).2 = 0) : formBad b = false ∧ runBad st q p (readR b) = 0 ∧ (loadP st q p b).1 = readR b := by
  unfold loadP at h ⊢
  cases hf : formBad b
  · rw [hf] at h
    rw [if_neg Bool.false_ne_true] at h ⊢
    by_cases hr : runBad st q p (readR b) = 0
    · rw [if_neg (by simpa using hr)]; exact ⟨rfl, hr, rfl⟩
    · rw [if_pos hr] at h; exact absurd h hr
  · rw [hf, if_pos rfl] at h; exact absurd h (show (2 : Int) ≠ 0 by decide)
end Go.Proofs.YtiiicochdidolaaGreat
namespace Go.Proofs.YtiiicochdidolaaGreat
def Sync (ps : List (PRule × Int)) (s : Int) (known new : List PFact) : Prop := ∀ r t, (r, t) ∈ ps → t = s → ∀ x, Derives r known x → x ∈ known ∨ Makes r known new x
theorem sync_all (ps : List (PRule × Int)) (s : Int) (known : List PFact) : Sync ps s known known := fun r t _ _ x hx => by
  by_cases h : ∃ a ∈ r.body, a.neg = false
  · obtain ⟨a, ha, hn⟩ := h
    obtain ⟨i, hi⟩ := List.mem_iff_getElem?.1 ha
    obtain ⟨m, hm, hf⟩ := hx
    refine .inr (.inl ⟨i, a, m, hi, hn, ?_, hf⟩)
    have e : pickP known known (i : Int) = fun _ => known := funext fun j => by unfold pickP; split <;> rfl
    rw [e]; exact hm
  · refine .inr (.inr ⟨fun a ha => ?_, hx⟩)
    cases hn : a.neg
    · exact absurd ⟨a, ha, hn⟩ h
    · rfl
def Still (ps : List (PRule × Int)) (s : Int) (known known' : List PFact) : Prop := ∀ r t, (r, t) ∈ ps → t = s → ∀ a ∈ r.body, a.neg = true → ∀ f ∈ known', f.name = a.name → f ∈ known
theorem still_of {p : List PRule} {L : Str → Nat} (hS : Sol p L) {n : Int} {r r' : PRun} (hsub : ∀ x ∈ r.new, x ∈ r.known) (h : Stepped (withL L p) n r r') : Still (withL L p) r.stratum r.known r'.known := fun r0 t hm e a ha hn f hf hname => by
  rcases (h.mem f).1 hf with h1 | h1
  · exact h1
  · obtain ⟨r1, t1, hm1, e1, hd⟩ := h1.derives hsub
    obtain ⟨k1, k2⟩ := mem_withL.1 hm1
    obtain ⟨g1, g2⟩ := mem_withL.1 hm
    have hnm := hd.name
    have hhead : a.name ∈ headsOf p := by rw [← hname, hnm]; exact List.mem_map.2 ⟨r1, k1, rfl⟩
    have hdl : dl p a = 1 := by unfold dl; rw [if_pos ⟨hn, hhead⟩]
    have := hS.up r0 g1 a ha
    rw [hdl, ← hname, hnm] at this
    omega
theorem Stepped.all {ps : List (PRule × Int)} {n : Int} {r r' : PRun} (hy : Sync ps r.stratum r.known r.new) (h : Stepped ps n r r') {r0 : PRule} {t : Int} (hm : (r0, t) ∈ ps) (e : t = r.stratum) {x : PFact} (hd : Derives r0 r.known x) : x ∈ r'.known := by
  rcases hy r0 t hm e x hd with h1 | h1
  · exact h.sub x h1
  · exact (h.mem x).2 (.inr ⟨r0, t, hm, e, h1⟩)
theorem Stepped.sync {ps : List (PRule × Int)} {n : Int} {r r' : PRun} (hy : Sync ps r.stratum r.known r.new) (h : Stepped ps n r r') (_hst : Still ps r.stratum r.known r'.known) : Sync ps r'.stratum r'.known r'.new := by
  rcases h.how with ⟨e1, e2, -, -⟩ | ⟨e1, -, -, e2⟩
  · rw [e1, e2]; exact sync_all _ _ _
  · intro r0 t hm e x hd
    rw [e1] at e
    obtain ⟨m, ⟨t1, t2, t3, t4⟩, hf⟩ := hd
    by_cases hnew : ∃ (i : Nat) (a : PAtom) (f : PFact), r0.body[i]? = some a ∧ a.neg = false ∧ fillP a m = some f ∧ f ∈ r'.new
    · obtain ⟨i, a, f, hi, hn, hfa, hfn⟩ := hnew
      refine .inr (.inl ⟨i, a, m, hi, hn, ⟨t1, t2, t3, fun j c hc => ?_⟩, hf⟩)
      obtain ⟨g, k1, k2⟩ := t4 j c hc
      refine ⟨g, k1, ?_⟩
      unfold pickP
      by_cases ej : (j : Int) = (i : Int)
      · rw [if_pos ej]
        have ej' : j = i := by omega
        subst ej'
        rw [hi] at hc; injection hc with hc; subst hc
        rw [hfa] at k1; injection k1 with k1; subst k1
        rw [hn]
        exact (memF_iff f r'.new).2 hfn
      · rw [if_neg ej]; exact k2
    · refine .inl (h.all hy hm e ⟨m, ⟨t1, t2, t3, fun j c hc => ?_⟩, hf⟩)
      obtain ⟨g, k1, k2⟩ := t4 j c hc
      refine ⟨g, k1, ?_⟩
      cases hn : c.neg
      · rw [hn] at k2
        have hg : g ∈ r'.known := (memF_iff g r'.known).1 k2
        refine (memF_iff g r.known).2 (Classical.byContradiction fun hno => ?_)
        exact hnew ⟨j, c, g, hc, hn, k1, (e2 g).2 ⟨hg, hno⟩⟩
      · rw [hn] at k2
        show memF g r.known = false
        rw [Bool.eq_false_iff]
        intro hk
        have := (memF_iff g r'.known).2 (h.sub g ((memF_iff g r.known).1 hk))
        rw [this] at k2; cases k2
structure Toward (st : List Int) (p : List PRule) (r : PRun) : Prop where
  ok : RunOk st p r
  on : r.done = false → r.stratum = 0 ∧ Sync (p.zip st) 0 r.known r.new
  closed : r.done = true → ∀ x0 ∈ p, ∀ x, Derives x0 r.known x → x ∈ r.known
theorem zero_zip {p : List PRule} {x : PRule} (h : x ∈ p) : (x, (0 : Int)) ∈ withL (fun _ => 0) p := mem_withL.2 ⟨h, rfl⟩
theorem Toward.iter {p : List PRule} {st : List Int} (hR : Ruled st p) (hst : p.zip st = withL (fun _ => 0) p) (hS : Sol p fun _ => 0) (hc : countP st ≤ 1) : ∀ {n : Nat} {r : PRun}, Toward st p r → (iterP st 0 p n r).2 = 0 → Toward st p (iterP st 0 p n r).1
  | 0, r, h, _ => h
  | n + 1, r, h, hz => by
    cases hd : r.done
    case true => rw [iter_still hd]; exact h
    rw [iterP, if_neg (by rw [hd]; simp), step_good_eq h.ok] at hz ⊢
    rcases step_cases hR h.ok hd with h1 | ⟨h1, -⟩ | ⟨h1, h2, h3⟩
    · rw [h1] at hz; exact absurd hz (by simp)
    · rw [h1] at hz; exact absurd hz (by simp)
    rw [if_neg (by simpa using h1)] at hz ⊢
    refine Toward.iter hR hst hS hc ⟨h3.ok hR h.ok hd h2, ?_, ?_⟩ hz
    · intro hd'
      obtain ⟨s0, hy⟩ := h.on hd
      rw [← s0] at hy
      have hstl : Still (p.zip st) r.stratum r.known (goodStep st p r).1.known := by rw [hst] at h3 ⊢; exact still_of hS h.ok.sub h3
      have hsy := h3.sync hy hstl
      rcases h3.how with ⟨a1, a2, a3, a4⟩ | ⟨a1, a2, a3, a4⟩
      · exfalso
        have hok := h3.ok hR h.ok hd h2
        have k1 := hok.done
        rw [hd'] at k1
        have k2 : (goodStep st p r).1.stratum ≠ countP st := by simpa using k1.symm
        have k3 := hok.s1
        omega
      · rw [a1, s0] at hsy ⊢; exact ⟨rfl, hsy⟩
    · intro hd' x0 hx0 x hx
      obtain ⟨s0, hy⟩ := h.on hd
      rcases h3.how with ⟨a1, a2, a3, a4⟩ | ⟨a1, a2, a3, a4⟩
      · rw [a1] at hx
        rw [← s0] at hy
        exact h3.all hy (r0 := x0) (t := 0) (by rw [hst]; exact zero_zip hx0) s0.symm hx
      · rw [a2] at hd'; cases hd'
end Go.Proofs.YtiiicochdidolaaGreat
namespace Go.Proofs.YtiiicochdidolaaGreat
inductive PProof where
  | mk (fact : PFact) (rule : Int) (kids : List PProof)
def PProof.fact : PProof → PFact := fun x => match x with | .mk f _ _ => f
def PProof.rule : PProof → Int := fun x => match x with | .mk _ r _ => r
def PProof.kids : PProof → List PProof := fun x => match x with | .mk _ _ k => k
def depN : Nat → PProof → Nat
  | 0, _ => 0
  | n + 1, x => (x.kids.map (depN n)).foldl max 0 + 1
def bodyMeet : List PAtom → List PFact → Binds → Binds × List PFact × Int
  | [], ks, b => (b, ks, 0)
  | a :: l, ks, b => if a.neg then bodyMeet l ks b else match ks with
    | [] => (b, [], 5)
    | f :: ks => match meetP a f b with
      | none => (b, ks, 8)
      | some m => bodyMeet l ks m
def badNeg (M : List PFact) (b : Binds) (a : PAtom) : Bool := a.neg && (match fillP a b with
  | none => true
  | some f => memF f M)
def firstErr (f : PProof → Int) : List PProof → Int
  | [] => 0
  | x :: l => if f x ≠ 0 then f x else firstErr f l
def leafBad (told : List PFact) (x : PProof) : Int := if x.rule ≠ -1 ∨ x.kids ≠ [] ∨ memF x.fact told = false then 6 else 0
def ruleOf (r : PRule) (M : List PFact) (x : PProof) : Int := match meetP r.head x.fact [] with
  | none => 8
  | some b => if (bodyMeet r.body (x.kids.map PProof.fact) b).2.2 ≠ 0 then (bodyMeet r.body (x.kids.map PProof.fact) b).2.2
    else if (bodyMeet r.body (x.kids.map PProof.fact) b).2.1 ≠ [] then 5
    else if r.body.any (badNeg M (bodyMeet r.body (x.kids.map PProof.fact) b).1) then 10 else 0
def oneN (p : List PRule) (told M : List PFact) : Nat → PProof → Int
  | 0, _ => 6
  | n + 1, x => if x.rule < 0 then leafBad told x else match p[x.rule.toNat]? with
    | none => 1
    | some r => if ruleOf r M x ≠ 0 then ruleOf r M x else firstErr (oneN p told M n) x.kids
end Go.Proofs.YtiiicochdidolaaGreat
namespace Go.Proofs.YtiiicochdidolaaGreat
open Go.RowKit
theorem Owned.lit {α : Type} {k : Nat} {R : Reader α} {B : Nat} {e : TypeId} {S : Nat → Prop} {w : World} {l : List α} (css : List (List Value)) (cs : Array Value) (hl : css.length = l.length) (hk : ∀ c ∈ css, c.length = k) (hc : cs.toList = css.flatten) (hs : cs.size = l.length * k)
    (hb : B ≤ w.heap.size) (hm : l.length ≤ maxLen) (hr : ∀ (i : Nat) (c : List Value) (x : α), css[i]? = some c → l[i]? = some x → R (fun b => S b ∧ some b ≠ some w.heap.size) (w.alloc (.cells cs e)) c x) :
    Owned k R B e S (w.alloc (.cells cs e)) (.slice (some ⟨w.heap.size, 0, none⟩) l.length l.length) l :=
  ⟨css, hl, hk, by have := World.ownsRow_lit (base := B) (size := k) (e := e) w cs l.length hb hm hs; rwa [hc] at this, hr⟩
theorem RAtom.one {S : Nat → Prop} {w : World} {cs : List Value} {x : PAtom} (h : RAtom S w cs x) : ∀ u ∈ cs, u.oneCell' = true := by
  obtain ⟨tv, rfl, hr⟩ := h
  obtain ⟨a, c, rfl, -⟩ := hr.form
  simp [Value.oneCell']
theorem RdStrs.nil {S : Nat → Prop} {w : World} : RdStrs S w (.slice none 0 0) [] := ⟨none, 0, rfl, Nat.le_refl _, Nat.zero_le _, fun _ => rfl, fun i x h => by simp at h⟩
theorem RdFacts.nil {S : Nat → Prop} {w : World} : RdFacts S w (.slice none 0 0) [] := ⟨none, 0, rfl, Nat.le_refl _, Nat.zero_le _, fun _ => rfl, fun i x h => by simp at h⟩
theorem addF_length (f : PFact) (l : List PFact) : (addF f l).length ≤ l.length + 1 := by
  induction l with
  | nil => simp [addF]
  | cons g l ih =>
    unfold addF
    split
    · simp
    · split
      · simp
      · simp only [List.length_cons]; omega
theorem ofF_length (l : List PFact) : (ofF l).length ≤ l.length := by
  induction l with
  | nil => simp [ofF]
  | cons f l ih =>
    have := addF_length f (ofF l)
    show (addF f (ofF l)).length ≤ _
    simp only [List.length_cons]; omega
end Go.Proofs.YtiiicochdidolaaGreat
namespace Go.Proofs.YtiiicochdidolaaGreat
open Go.RowKit
theorem RBind.one {S : Nat → Prop} {w : World} {cs : List Value} {x : PBind} (h : RBind S w cs x) : ∀ u ∈ cs, u.oneCell' = true := by
  have h' : cs = [.string x.var, .string x.name] := h
  subst h'; simp [Value.oneCell']
theorem RBinds.one {S : Nat → Prop} {w : World} {cs : List Value} {x : Binds} (h : RBinds S w cs x) : ∀ u ∈ cs, u.oneCell' = true := by
  obtain ⟨v, rfl, hr⟩ := h
  obtain ⟨a, c, rfl, -⟩ := hr.form
  simp [Value.oneCell']
theorem rowBinds : RowT Tryz.prog 92 135 2 := RowT.mk' (b := 32) (z := .agg #[.string ⟨#[]⟩, .string ⟨#[]⟩]) Tryz.underlying92 (by kernel_rfl) (by omega) rfl (by omega)
theorem rowBindss : RowT Tryz.prog 41 92 1 := RowT.mk' (b := 24) (z := .slice none 0 0) Tryz.underlying41 (by kernel_rfl) (by omega) rfl (by omega)
abbrev VB := Value × Binds
def RPair : Reader VB := fun _ _ cs z => cs = [z.1] ∧ z.1.oneCell' = true
theorem RPair.steady : Steady RPair := ⟨fun _ h => h, fun _ h => h⟩
theorem RPair.one {S : Nat → Prop} {w : World} {cs : List Value} {x : VB} (h : RPair S w cs x) : ∀ u ∈ cs, u.oneCell' = true := by
  obtain ⟨rfl, h⟩ := h
  simpa using h
abbrev OB (B : Nat) (w : World) (v : Value) (l : Binds) : Prop := Owned 2 RBind B 135 (fun _ => False) w v l
abbrev OV (B : Nat) (w : World) (v : Value) (zs : List VB) : Prop := Owned 1 RPair B 92 (fun _ => False) w v zs
structure Nest (B : Nat) (w : World) (v : Value) (zs : List VB) : Prop where
  outer : OV B w v zs
  inner : ∀ z ∈ zs, OB B w z.1 z.2
  apart : zs.Pairwise fun y z => ∀ b, y.1.ownBlock = some b → z.1.ownBlock ≠ some b
  off : ∀ z ∈ zs, ∀ b, z.1.ownBlock = some b → v.ownBlock ≠ some b
theorem Owned.kept {α : Type} {k : Nat} {R : Reader α} (hR : Steady R) {B : Nat} {e : TypeId} {w w' : World} {v : Value} {l : List α} (h : Owned k R B e (fun _ => False) w v l) {row : Option Nat} (hg : w.grownBy w' row) (hne : ∀ q, v.ownBlock = some q → row ≠ some q) : Owned k R B e (fun _ => False) w' v l :=
  h.keep hR ⟨hg.size, fun _ hb _ => hb.elim⟩ fun g hg' => hg.block g (h.row_lt hg').2 (fun e => hne g hg' e.symm)
section
variable {B : Nat} {w w' : World} {v v' : Value} {zs : List VB}
theorem Nest.nil : Nest B w (.slice none 0 0) [] := ⟨Owned.nil, by simp, List.Pairwise.nil, by simp⟩
theorem Nest.below (h : Nest B w v zs) (hb : Below w.heap.size w w') : Nest B w' v zs :=
  ⟨h.outer.below RPair.steady hb, fun z hz => (h.inner z hz).below RBind.steady hb, h.apart, h.off⟩
theorem Nest.alloc (h : Nest B w v zs) (o : Obj) : Nest B (w.alloc o) v zs := h.below ((Below.refl _ _).alloc (Nat.le_refl _) o)
theorem Nest.row_lt (h : Nest B w v zs) {g : Nat} (hg : v.ownBlock = some g) : B ≤ g ∧ g < w.heap.size := h.outer.row_lt hg
theorem Nest.inner_lt (h : Nest B w v zs) {z : VB} (hz : z ∈ zs) {g : Nat} (hg : z.1.ownBlock = some g) : B ≤ g ∧ g < w.heap.size := (h.inner z hz).row_lt hg
theorem Nest.kept (h : Nest B w v zs) {row : Option Nat} (hg : w.grownBy w' row) (hr : ∀ q, row = some q → q < B) : Nest B w' v zs :=
  ⟨h.outer.kept RPair.steady hg (fun q hq e => by have := (h.row_lt hq).1; have := hr q e; omega), fun z hz => (h.inner z hz).kept RBind.steady hg (fun q hq e => by have := (h.inner_lt hz hq).1; have := hr q e; omega), h.apart, h.off⟩
theorem Nest.snoc (h : Nest B w v zs) {z : VB} (hz : OB B w z.1 z.2) (ha : ∀ y ∈ zs, ∀ b, y.1.ownBlock = some b → z.1.ownBlock ≠ some b) (hv : ∀ b, z.1.ownBlock = some b → v.ownBlock ≠ some b)
    (ho : OV B w' v' (zs ++ [z])) (hg : w.grownBy w' v.ownBlock) (hat : v'.ownBlock = v.ownBlock ∨ v'.ownBlock = some w.heap.size) : Nest B w' v' (zs ++ [z]) := by
  refine ⟨ho, fun y hy => ?_, ?_, fun y hy b hb => ?_⟩
  · rcases List.mem_append.1 hy with hy | hy
    · exact (h.inner y hy).kept RBind.steady hg (fun q hq e => h.off y hy q hq e)
    · obtain rfl := List.mem_singleton.1 hy
      exact hz.kept RBind.steady hg (fun q hq e => hv q hq e)
  · refine List.pairwise_append.2 ⟨h.apart, List.pairwise_singleton _ _, fun y hy y' hy' => ?_⟩
    obtain rfl := List.mem_singleton.1 hy'
    exact ha y hy
  · have hlt : b < w.heap.size := by
      rcases List.mem_append.1 hy with hy | hy
      · exact (h.inner_lt hy hb).2
      · obtain rfl := List.mem_singleton.1 hy
        exact (hz.row_lt hb).2
    have hvb : v.ownBlock ≠ some b := by
      rcases List.mem_append.1 hy with hy | hy
      · exact h.off y hy b hb
      · obtain rfl := List.mem_singleton.1 hy
        exact hv b hb
    rcases hat with hat | hat
    · rw [hat]; exact hvb
    · rw [hat]; intro e; injection e with e; omega
theorem Nest.filter (h : Nest B w v zs) (p : VB → Bool) (ho : OV B w' v' (zs.filter p)) (hg : w.grownBy w' v.ownBlock) (hv : v'.ownBlock = v.ownBlock) : Nest B w' v' (zs.filter p) :=
  ⟨ho, fun z hz => (h.inner z (List.mem_filter.1 hz).1).kept RBind.steady hg (fun q hq e => h.off z (List.mem_filter.1 hz).1 q hq e), h.apart.filter _, fun z hz b hb => by rw [hv]; exact h.off z (List.mem_filter.1 hz).1 b hb⟩
theorem Nest.turn {us bs : List VB} {z : VB} {l : Binds} (h : Nest B w v (us ++ z :: bs)) (hz : OB B w' z.1 l) (ho : OV B w v (us ++ (z.1, l) :: bs)) (hg : w.grownBy w' z.1.ownBlock) : Nest B w' v (us ++ (z.1, l) :: bs) := by
  have hmem : z ∈ us ++ z :: bs := by simp
  obtain ⟨p1, p2, p3⟩ := List.pairwise_append.1 h.apart
  obtain ⟨p4, p5⟩ := List.pairwise_cons.1 p2
  refine ⟨ho.kept RPair.steady hg (fun q hq e => h.off z hmem q e hq), fun y hy => ?_, ?_, fun y hy b hb => ?_⟩
  · rcases List.mem_append.1 hy with hy | hy
    · exact (h.inner y (by simp [hy])).kept RBind.steady hg (fun q hq e => p3 y hy z (by simp) q hq e)
    · rcases List.mem_cons.1 hy with rfl | hy
      · exact hz
      · exact (h.inner y (by simp [hy])).kept RBind.steady hg (fun q hq e => p4 y hy q e hq)
  · refine List.pairwise_append.2 ⟨p1, List.pairwise_cons.2 ⟨p4, p5⟩, fun y hy y' hy' => ?_⟩
    rcases List.mem_cons.1 hy' with rfl | hy'
    · exact p3 y hy z (by simp)
    · exact p3 y hy y' (by simp [hy'])
  · rcases List.mem_append.1 hy with hy | hy
    · exact h.off y (by simp [hy]) b hb
    · rcases List.mem_cons.1 hy with rfl | hy
      · exact h.off z hmem b hb
      · exact h.off y (by simp [hy]) b hb
theorem OV.tell {ys : List VB} (h : OV B w v zs) (hl : ys.map (·.1) = zs.map (·.1)) : OV B w v ys := by
  obtain ⟨css, h1, h2, h3, h4⟩ := h
  have hlen : ys.length = zs.length := by have := congrArg List.length hl; simpa using this
  refine ⟨css, by omega, h2, by rw [hlen]; exact h3, fun i cs x hc hx => ?_⟩
  have hi := (List.getElem?_eq_some_iff.1 hx).1
  obtain ⟨y, hy⟩ : ∃ y, zs[i]? = some y := ⟨_, List.getElem?_eq_getElem (by omega)⟩
  have he : x.1 = y.1 := by
    have h5 : (ys.map (·.1))[i]? = some x.1 := by rw [List.getElem?_map, hx]; rfl
    have h6 : (zs.map (·.1))[i]? = some y.1 := by rw [List.getElem?_map, hy]; rfl
    rw [hl, h6] at h5
    exact (Option.some.inj h5).symm
  have := h4 i cs y hc hy
  unfold RPair at *
  rw [he]; exact this
theorem OB.read {x : Value} {l : Binds} (h : OB B w x l) : RdBinds (fun b => x.ownBlock = some b) w x l := by
  have h' := h
  obtain ⟨css, h1, h2, ho, h3⟩ := h
  rcases ho.2 with ⟨rfl, h0⟩ | ⟨g, cap, cur, rfl, hb, hgg, hnc, hcm, hcs, htake⟩
  · refine ⟨none, 0, by rw [h0], by omega, Nat.zero_le _, fun _ => rfl, fun i x hx => ?_⟩
    have := (List.getElem?_eq_some_iff.1 hx).1
    omega
  · refine ⟨some ⟨g, 0, none⟩, cap, rfl, hnc, hcm, (fun h => by cases h), fun i x hx => ?_⟩
    have hi := (List.getElem?_eq_some_iff.1 hx).1
    obtain ⟨cs, hcss⟩ : ∃ cs, css[i]? = some cs := ⟨_, List.getElem?_eq_getElem (by omega)⟩
    refine ⟨g, 0, cs, rfl, rfl, (Array.getElem?_eq_some_iff.1 hgg).1, h2 cs (List.mem_of_getElem? hcss), fun j u hu => ?_, h3 i cs x hcss hx⟩
    have := ho.cells (g := g) rfl (i * 2 + j) u (flatten_get css h2 i cs j u hcss hu)
    have hadd : (⟨g, 0, none⟩ : Addr).add (i * 2 + j) = ⟨g, 0 + i * 2 + j, none⟩ := by unfold Addr.add; split <;> simp_all
    rwa [hadd] at this
theorem OB.slice {x : Value} {l : Binds} (h : OB B w x l) : x.oneCell' = true := by
  obtain ⟨a, c, rfl, -⟩ := (OB.read h).form
  simp [Value.oneCell']
theorem Nest.reads (h : Nest B w v zs) : Owned 1 RBinds B 92 (fun b => B ≤ b) w v (zs.map (·.2)) := by
  obtain ⟨css, h1, h2, h3, h4⟩ := h.outer
  refine ⟨css, by simpa using h1, h2, by rw [List.length_map]; exact h3, fun i cs x hc hx => ?_⟩
  rw [List.getElem?_map] at hx
  cases hz : zs[i]? with
  | none => rw [hz] at hx; cases hx
  | some z =>
    rw [hz] at hx
    obtain rfl : z.2 = x := by simpa using hx
    have hm := List.mem_of_getElem? hz
    obtain ⟨rfl, -⟩ := h4 i cs z hc hz
    exact ⟨z.1, rfl, (OB.read (h.inner z hm)).more RBind.steady (fun b hb _ => ⟨(h.inner_lt hm hb).1, fun e => h.off z hm b hb e.symm⟩)⟩
end
end Go.Proofs.YtiiicochdidolaaGreat
