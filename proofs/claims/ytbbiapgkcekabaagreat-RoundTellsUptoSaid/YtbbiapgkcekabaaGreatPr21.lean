/-
  THE TEXTS RoundQ, Ref1Minus, one behind the other.
-/
import Derived.Test.YtbbiapgkcekabaaGreatPr8
import Derived.Test.YtbbiapgkcekabaaGreatPr10
import Derived.Test.YtbbiapgkcekabaaGreatPr11
import Derived.Test.YtbbiapgkcekabaaGreatPr12
/-
  PLAIN: what a round makes; a right run stays right; rounds end; in two parts or at once (chapter 6).
-/
namespace Go.Proofs.YtbbiapgkcekabaaGreat

/-- What a rule makes, something in its body being new, or nothing in it can be. -/
def Makes (r : PRule) (known new : List PFact) (x : PFact) : Prop :=
  (∃ (i : Nat) (a : PAtom) (m : Binds), r.body[i]? = some a ∧ a.neg = false ∧ Told (pickP known new (i : Int)) r.body m ∧ fillP r.head m = some x) ∨ ((∀ a ∈ r.body, a.neg = true) ∧ Derives r known x)
theorem with_much {b : List PAtom} {known new : List PFact} {i : Int} (hb : bodyBad b = 0) (hk : (setF known).1 = 0) (hn : (setF new).1 = 0) (h : (withP b known i new).2 ≠ 0) : (withP b known i new).2 = 4 := by
  unfold withP at *
  rw [if_neg (by simpa using hb), if_neg (by simpa using hk), if_neg (by simpa using hn)] at *
  cases hg : goP (pickP known new i) 0 [[]] b with
  | none => rfl
  | some ls => rw [hg] at h; exact absurd rfl h
theorem newP_cases {x : PRule} {known new : List PFact} (hb : bodyBad x.body = 0) (hk : (setF known).1 = 0) (hn : (setF new).1 = 0) : ∀ (b : List PAtom) (i : Nat) (out : List PFact) (sm : Bool), x.body.drop i = b →
    (newP x known new i b out sm).2 = 4 ∨
    (newP x known new i b out sm).2 = 0 ∧ (sm = true ∨ ∃ a ∈ b, a.neg = false) ∧ (∀ f, f ∈ (newP x known new i b out sm).1 ↔ f ∈ out ∨ ∃ (j : Nat) (a : PAtom) (m : Binds), i ≤ j ∧ x.body[j]? = some a ∧ a.neg = false ∧ Told (pickP known new (j : Int)) x.body m ∧ fillP x.head m = some f) ∨
    sm = false ∧ (∀ a ∈ b, a.neg = true) ∧ newP x known new i b out sm = headsP x known
  | [], i, out, sm, hd => by
    rw [newP]
    cases sm
    · exact .inr (.inr ⟨rfl, fun a ha => by simp at ha, rfl⟩)
    · refine .inr (.inl ⟨rfl, .inl rfl, fun f => ?_⟩)
      refine ⟨fun h => .inl h, fun h => ?_⟩
      rcases h with h | ⟨j, a, m, hj, ha, -⟩
      · exact h
      · have hlen : x.body.length ≤ i := List.drop_eq_nil_iff.1 hd
        have := (List.getElem?_eq_some_iff.1 ha).1
        omega
  | a :: b, i, out, sm, hd => by
    have hai : x.body[i]? = some a := by
      have := congrArg (fun l => l[0]?) hd
      simpa using this
    have hd' : x.body.drop (i + 1) = b := by
      have := congrArg (fun l => l.drop 1) hd
      simpa [List.drop_drop] using this
    rw [newP]
    cases hneg : a.neg
    case true =>
      rw [if_pos rfl]
      rcases newP_cases hb hk hn b (i + 1) out sm hd' with h | ⟨h0, h1, h2⟩ | ⟨h1, h2, h3⟩
      · exact .inl h
      · refine .inr (.inl ⟨h0, ?_, fun f => ?_⟩)
        · rcases h1 with h1 | ⟨c, hc, hc'⟩
          · exact .inl h1
          · exact .inr ⟨c, List.mem_cons_of_mem _ hc, hc'⟩
        · rw [h2]
          refine or_congr_right ⟨fun ⟨j, c, m, hj, hr⟩ => ⟨j, c, m, by omega, hr⟩, fun ⟨j, c, m, hj, hc, hcn, hr⟩ => ⟨j, c, m, ?_, hc, hcn, hr⟩⟩
          by_cases e : j = i
          · subst e; rw [hai] at hc; injection hc with hc; subst hc; rw [hneg] at hcn; cases hcn
          · omega
      · exact .inr (.inr ⟨h1, fun c hc => by
          rcases List.mem_cons.1 hc with rfl | hc
          · exact hneg
          · exact h2 c hc, h3⟩)
    case false =>
      rw [if_neg (by simp)]
      by_cases he : (withP x.body known (i : Int) new).2 = 0
      case neg => rw [if_pos he]; exact .inl (with_much hb hk hn he)
      rw [if_neg (by simpa using he)]
      have hT : ∀ m, m ∈ (withP x.body known (i : Int) new).1 ↔ Told (pickP known new (i : Int)) x.body m := by
        rcases withP_cases x.body known (i : Int) new with ⟨h, -⟩ | ⟨-, -, -, -, -, h⟩
        · exact absurd he h
        · exact h
      rcases newP_cases hb hk hn b (i + 1) (out ++ fillAll x.head (withP x.body known (i : Int) new).1) true hd' with h | ⟨h0, h1, h2⟩ | ⟨h1, -⟩
      · exact .inl h
      · refine .inr (.inl ⟨h0, .inr ⟨a, by simp, hneg⟩, fun f => ?_⟩)
        rw [h2, List.mem_append]
        constructor
        · rintro ((h | h) | ⟨j, c, m, hj, hr⟩)
          · exact .inl h
          · obtain ⟨m, hm, hf⟩ := List.mem_filterMap.1 h
            exact .inr ⟨i, a, m, Nat.le_refl _, hai, hneg, (hT m).1 hm, hf⟩
          · exact .inr ⟨j, c, m, by omega, hr⟩
        · rintro (h | ⟨j, c, m, hj, hc, hcn, ht, hf⟩)
          · exact .inl (.inl h)
          · by_cases e : j = i
            · subst e
              exact .inl (.inr (List.mem_filterMap.2 ⟨m, (hT m).2 ht, hf⟩))
            · exact .inr ⟨j, c, m, by omega, hc, hcn, ht, hf⟩
      · cases h1
theorem newHeads_cases {x : PRule} {known new : List PFact} (hb : bodyBad x.body = 0) (hk : (setF known).1 = 0) (hn : (setF new).1 = 0) :
    (newHeads x known new).2 = 4 ∨ (newHeads x known new).2 = 0 ∧ ∀ f, f ∈ (newHeads x known new).1 ↔ Makes x known new f := by
  unfold newHeads
  rcases newP_cases hb hk hn x.body 0 [] false (by simp) with h | ⟨h0, h1, h2⟩ | ⟨-, h2, h3⟩
  · exact .inl h
  · refine .inr ⟨h0, fun f => ?_⟩
    rw [h2]
    constructor
    · rintro (h | ⟨j, c, m, -, hr⟩)
      · simp at h
      · exact .inl ⟨j, c, m, hr⟩
    · rintro (⟨j, c, m, hr⟩ | ⟨h, -⟩)
      · exact .inr ⟨j, c, m, Nat.zero_le _, hr⟩
      · rcases h1 with h1 | ⟨a, ha, han⟩
        · cases h1
        · rw [h a ha] at han; cases han
  · rw [h3]
    by_cases he : (headsP x known).2 = 0
    · refine .inr ⟨he, fun f => ?_⟩
      rw [mem_heads he]
      constructor
      · exact fun h => .inr ⟨h2, h⟩
      · rintro (⟨j, c, m, hc, hcn, -⟩ | ⟨-, h⟩)
        · rw [h2 c (List.mem_of_getElem? hc)] at hcn; cases hcn
        · exact h
    · exact .inl (heads_much hb hk he)
def MakesS (ps : List (PRule × Int)) (s : Int) (known new : List PFact) (x : PFact) : Prop := ∃ r t, (r, t) ∈ ps ∧ t = s ∧ Makes r known new x
theorem makeP_cases {s : Int} {known new : List PFact} (hk : (setF known).1 = 0) (hn : (setF new).1 = 0) : ∀ {ps : List (PRule × Int)} {made : List PFact}, (∀ r t, (r, t) ∈ ps → bodyBad r.body = 0) →
    (makeP s known new ps made).2 = 4 ∨ (makeP s known new ps made).2 = 0 ∧ ∀ f, f ∈ (makeP s known new ps made).1 ↔ f ∈ made ∨ MakesS ps s known new f
  | [], made, _ => .inr ⟨rfl, fun f => ⟨.inl, fun h => by
      rcases h with h | ⟨r, t, h, -⟩
      · exact h
      · simp at h⟩⟩
  | (r, t) :: ps, made, hb => by
    have hb' : ∀ r t, (r, t) ∈ ps → bodyBad r.body = 0 := fun r t h => hb r t (List.mem_cons_of_mem _ h)
    rw [makeP]
    by_cases ht : t = s
    case neg =>
      rw [if_pos ht]
      rcases makeP_cases (made := made) hk hn hb' with h | ⟨h0, h1⟩
      · exact .inl h
      · refine .inr ⟨h0, fun f => ?_⟩
        rw [h1]
        refine or_congr_right ⟨fun ⟨r', t', hm, hr⟩ => ⟨r', t', List.mem_cons_of_mem _ hm, hr⟩, fun ⟨r', t', hm, e, hr⟩ => ?_⟩
        rcases List.mem_cons.1 hm with hm | hm
        · injection hm with _ h2; subst h2; exact absurd e ht
        · exact ⟨r', t', hm, e, hr⟩
    rw [if_neg (by simpa using ht)]
    rcases newHeads_cases (hb r t (by simp)) hk hn with h | ⟨h0, h1⟩
    · rw [if_pos (by rw [h]; decide)]; exact .inl h
    rw [if_neg (by simpa using h0)]
    rcases makeP_cases (made := made ++ (newHeads r known new).1) hk hn hb' with h | ⟨g0, g1⟩
    · exact .inl h
    · refine .inr ⟨g0, fun f => ?_⟩
      rw [g1, List.mem_append, h1]
      constructor
      · rintro ((h | h) | ⟨r', t', hm, hr⟩)
        · exact .inl h
        · exact .inr ⟨r, t, by simp, ht, h⟩
        · exact .inr ⟨r', t', List.mem_cons_of_mem _ hm, hr⟩
      · rintro (h | ⟨r', t', hm, e, hr⟩)
        · exact .inl (.inl h)
        · rcases List.mem_cons.1 hm with hm | hm
          · injection hm with h2 _; subst h2; exact .inl (.inr hr)
          · exact .inr ⟨r', t', hm, e, hr⟩
/-- What is made of what is new is made of what is known. -/
theorem Makes.derives {r : PRule} {known new : List PFact} {x : PFact} (hs : ∀ y ∈ new, y ∈ known) (h : Makes r known new x) : Derives r known x := by
  rcases h with ⟨i, a, m, ha, hneg, ⟨h1, h2, h3, h4⟩, hf⟩ | ⟨-, h⟩
  · refine ⟨m, ⟨h1, h2, h3, fun j c hc => ?_⟩, hf⟩
    obtain ⟨f, k1, k2⟩ := h4 j c hc
    refine ⟨f, k1, ?_⟩
    unfold pickP at k2
    by_cases e : (j : Int) = (i : Int)
    · rw [if_pos e] at k2
      have e' : j = i := by omega
      subst e'
      rw [ha] at hc; injection hc with hc; subst hc
      rw [hneg] at k2 ⊢
      exact (memF_iff f known).2 (hs f ((memF_iff f new).1 k2))
    · rw [if_neg e] at k2; exact k2
  · exact h

theorem in_lessF (l m : List PFact) (x : PFact) : x ∈ lessF l m ↔ x ∈ l ∧ x ∉ m := by
  unfold lessF
  rw [List.mem_filter]
  refine and_congr_right fun _ => ?_
  rw [← memF_iff x m]
  cases memF x m <;> simp
theorem lessF_up {l m : List PFact} (h : Rising l) : Rising (lessF l m) := List.Pairwise.filter _ h
theorem joinF_nil {l : List PFact} (h : Rising l) : joinF l [] = l := rising_ext (ofF_rising _) h fun x => by rw [mem_joinF]; simp
/-- What a step comes to, with which nothing is wrong. -/
structure Stepped (ps : List (PRule × Int)) (n : Int) (r r' : PRun) : Prop where
  mem : ∀ x, x ∈ r'.known ↔ x ∈ r.known ∨ MakesS ps r.stratum r.known r.new x
  rise : Rising r'.known
  len : r'.known.length ≤ 200
  rnew : Rising r'.new
  rounds : r'.rounds = r.rounds + 1
  how : (r'.known = r.known ∧ r'.new = r.known ∧ r'.stratum = r.stratum + 1 ∧ r'.done = (r.stratum + 1 == n)) ∨
    (r'.stratum = r.stratum ∧ r'.done = false ∧ (∃ x, x ∈ r'.new) ∧ ∀ x, x ∈ r'.new ↔ x ∈ r'.known ∧ x ∉ r.known)
/-- The rules, and what is said of them. -/
structure Ruled (st : List Int) (p : List PRule) : Prop where
  rules : ∀ r ∈ p, ruleBad r = 0
  arity : Arity p
theorem Ruled.body {st : List Int} {p : List PRule} (h : Ruled st p) {r : PRule} {t : Int} (hm : (r, t) ∈ p.zip st) : bodyBad r.body = 0 := (ruleBad_zero (h.rules r (List.of_mem_zip hm).1)).2.2.1
theorem step_cases {st : List Int} {p : List PRule} (hR : Ruled st p) {r : PRun} (h : RunOk st p r) (hd : r.done = false) :
    goodStep st p r = (zeroRun, 4) ∨ (goodStep st p r = (zeroRun, 5) ∧ (r.rounds = 1000 ∨ ∃ l, Rising l ∧ 200 < l.length ∧ ∀ x, x ∈ l ↔ x ∈ r.known ∨ MakesS (p.zip st) r.stratum r.known r.new x)) ∨
    ((goodStep st p r).2 = 0 ∧ r.rounds ≠ 1000 ∧ Stepped (p.zip st) (countP st) r (goodStep st p r).1) := by
  have hk : (setF r.known).1 = 0 := by rw [h.known.set]
  have hn : (setF r.new).1 = 0 := by rw [h.new.set]
  unfold goodStep
  rw [hd, if_neg (by decide)]
  by_cases h1 : r.rounds = 1000
  · rw [if_pos h1]; exact .inr (.inl ⟨rfl, .inl h1⟩)
  rw [if_neg h1]
  rcases makeP_cases (s := r.stratum) (made := []) (ps := p.zip st) hk hn (fun r t hm => hR.body hm) with h2 | ⟨h2, h3⟩
  · rw [if_pos (by rw [h2]; decide), h2]; exact .inl rfl
  rw [if_neg (by simpa using h2)]
  generalize (makeP r.stratum r.known r.new (p.zip st) []).1 = made at h3
  have hM : ∀ x, x ∈ joinF r.known (lessF (ofF made) r.known) ↔ x ∈ r.known ∨ MakesS (p.zip st) r.stratum r.known r.new x := fun x => by
    rw [mem_joinF, in_lessF, mem_ofF, h3]
    constructor
    · rintro (h | ⟨h | h, -⟩)
      · exact .inl h
      · simp at h
      · exact .inr h
    · rintro (h | h)
      · exact .inl h
      · by_cases hx : x ∈ r.known
        · exact .inl hx
        · exact .inr ⟨.inr h, hx⟩
  by_cases h4 : 200 < (joinF r.known (lessF (ofF made) r.known)).length
  · rw [if_pos h4]; exact .inr (.inl ⟨rfl, .inr ⟨_, ofF_rising _, h4, hM⟩⟩)
  rw [if_neg h4]
  refine .inr (.inr ⟨rfl, h1, ?_⟩)
  show Stepped _ _ _ (nextRun (countP st) r made)
  unfold nextRun
  by_cases h5 : lessF (ofF made) r.known = []
  · rw [if_pos h5]
    have e : joinF r.known (lessF (ofF made) r.known) = r.known := by rw [h5, joinF_nil h.known.rise]
    rw [e] at hM h4 ⊢
    exact ⟨hM, h.known.rise, by show r.known.length ≤ 200; omega, h.known.rise, rfl, .inl ⟨rfl, rfl, rfl, rfl⟩⟩
  · rw [if_neg h5]
    refine ⟨hM, ofF_rising _, by show (joinF r.known (lessF (ofF made) r.known)).length ≤ 200; omega, lessF_up (ofF_rising _), rfl, .inr ⟨rfl, rfl, List.exists_mem_of_ne_nil _ h5, fun x => ?_⟩⟩
    show x ∈ lessF (ofF made) r.known ↔ x ∈ joinF r.known (lessF (ofF made) r.known) ∧ x ∉ r.known
    rw [mem_joinF, in_lessF]
    constructor
    · rintro ⟨a, b⟩; exact ⟨.inr ⟨a, b⟩, b⟩
    · rintro ⟨a | a, b⟩
      · exact absurd a b
      · exact a
theorem MakesS.derives {ps : List (PRule × Int)} {s : Int} {known new : List PFact} {x : PFact} (hs : ∀ y ∈ new, y ∈ known) (h : MakesS ps s known new x) : ∃ r t, (r, t) ∈ ps ∧ t = s ∧ Derives r known x := by
  obtain ⟨r, t, hm, e, h⟩ := h
  exact ⟨r, t, hm, e, h.derives hs⟩
theorem Stepped.sub {ps : List (PRule × Int)} {n : Int} {r r' : PRun} (h : Stepped ps n r r') : ∀ x ∈ r.known, x ∈ r'.known := fun x hx => (h.mem x).2 (.inl hx)
theorem Stepped.newsub {ps : List (PRule × Int)} {n : Int} {r r' : PRun} (h : Stepped ps n r r') : ∀ x ∈ r'.new, x ∈ r'.known := fun x hx => by
  rcases h.how with ⟨e1, e2, -⟩ | ⟨-, -, -, e⟩
  · rw [e2] at hx; rw [e1]; exact hx
  · exact ((e x).1 hx).1
/-- A right run stays right. -/
theorem Stepped.ok {st : List Int} {p : List PRule} (hR : Ruled st p) {r r' : PRun} (h : RunOk st p r) (hd : r.done = false) (h1 : r.rounds ≠ 1000) (hs : Stepped (p.zip st) (countP st) r r') : RunOk st p r' := by
  have hfine : ∀ x ∈ r'.known, wrongF x = 0 ∧ misfit p x = false := fun x hx => by
    rcases (hs.mem x).1 hx with hx | hx
    · exact ⟨h.known.fine x hx, (factsBad_iff.1 h.fit).2 x hx⟩
    · obtain ⟨r0, t, hm, -, hdv⟩ := hx.derives h.sub
      have hr0 := (List.of_mem_zip hm).1
      exact ⟨derives_good (hR.rules r0 hr0) (fun f hf => h.known.fine f hf) hdv, derives_fit hR.arity hr0 hdv⟩
  have hk : Good r'.known := ⟨hs.rise, hs.len, fun x hx => (hfine x hx).1⟩
  have hdn : (r.stratum == countP st) = false := by rw [← h.done]; exact hd
  have hne : r.stratum ≠ countP st := by simpa using hdn
  have h0 := h.s0
  have hs1 := h.s1
  have hr0 := h.r0
  have hr1 := h.r1
  have e := hs.rounds
  refine ⟨hk, factsBad_iff.2 ⟨by rw [hk.set], fun x hx => (hfine x hx).2⟩, ⟨hs.rnew, Nat.le_trans (rising_sub_le hs.rnew hs.newsub) hs.len, fun x hx => (hfine x (hs.newsub x hx)).1⟩, by omega, by omega, ?_, ?_, ?_, hs.newsub⟩
  · rcases hs.how with ⟨-, -, e, -⟩ | ⟨e, -⟩ <;> omega
  · rcases hs.how with ⟨-, -, e, -⟩ | ⟨e, -⟩ <;> omega
  · rcases hs.how with ⟨-, -, e, e2⟩ | ⟨e, e2, -⟩
    · rw [e2, e]
    · rw [e2, e, hdn]
theorem step_done {st : List Int} {p : List PRule} {r : PRun} (h : r.done = true) : goodStep st p r = (r, 0) := by unfold goodStep; rw [if_pos h]
theorem step_good_eq {st : List Int} {p : List PRule} {r : PRun} (h : RunOk st p r) : stepRun st 0 p r = goodStep st p r := by
  unfold stepRun
  rw [if_neg (by rw [runBad_zero.2 ⟨rfl, h⟩]; simp)]
/-- EACH ROUND IS RIGHT. -/
structure Rightly (st : List Int) (p : List PRule) (r r' : PRun) : Prop where
  ok : RunOk st p r'
  grows : ∀ x ∈ r.known, x ∈ r'.known
  done : r.done = true → r' = r
  rounds : r.rounds ≤ r'.rounds
  stratum : r.stratum ≤ r'.stratum
theorem step_right {st : List Int} {p : List PRule} (hR : Ruled st p) {r : PRun} (h : RunOk st p r) :
    (stepRun st 0 p r).2 = 4 ∨ (stepRun st 0 p r).2 = 5 ∨ (stepRun st 0 p r).2 = 0 ∧ Rightly st p r (stepRun st 0 p r).1 := by
  rw [step_good_eq h]
  cases hd : r.done
  · rcases step_cases hR h hd with h1 | ⟨h1, -⟩ | ⟨h1, h2, h3⟩
    · rw [h1]; exact .inl rfl
    · rw [h1]; exact .inr (.inl rfl)
    · refine .inr (.inr ⟨h1, h3.ok hR h hd h2, h3.sub, fun h => (by rw [hd] at h; cases h), ?_, ?_⟩)
      · have := h3.rounds; omega
      · rcases h3.how with ⟨-, -, e, -⟩ | ⟨e, -⟩ <;> omega
  · rw [step_done hd]
    exact .inr (.inr ⟨rfl, h, fun x hx => hx, fun _ => rfl, Int.le_refl _, Int.le_refl _⟩)
theorem strata_count {p : List PRule} {st : List Int} {q : Int × Int} (hs : StrataIs p st q) (hq : q.1 = 0) : Ruled st p ∧ 0 ≤ countP st ∧ countP st ≤ 16 ∧ ∃ L, Least p L ∧ st = p.map (fun r => (L r.head.name : Int)) := by
  obtain ⟨h1, h2, L, hL, e⟩ := strata_zero hs hq
  obtain ⟨k1, -, k3⟩ := wrongP_iff.1 h2
  refine ⟨⟨h1, k3⟩, ?_, ?_, L, hL, e⟩
  · rcases count_is st with ⟨-, h⟩ | ⟨x, hx, h⟩
    · omega
    · rw [e] at hx
      obtain ⟨r, -, rfl⟩ := List.mem_map.1 hx
      omega
  · rcases count_is st with ⟨-, h⟩ | ⟨x, hx, h⟩
    · omega
    · rw [e] at hx
      obtain ⟨r, hr, rfl⟩ := List.mem_map.1 hx
      have := hL.bound (D := headsOf p) (fun x hx => hx) (s := r.head.name) (List.mem_map.2 ⟨r, hr, rfl⟩)
      rw [show (headsOf p).length = p.length from List.length_map ..] at this
      omega
end Go.Proofs.YtbbiapgkcekabaaGreat

/-
  THE WALK OF cororef1.Minus.
-/
namespace Go.Proofs.YtbbiapgkcekabaaGreat
open Go.RowKit

set_option maxRecDepth 100000 in
set_option maxHeartbeats 4000000 in
theorem minusRefU {S T : Nat → Prop} (va vb : Value) (l m : List PFact) (w : World) (h : RdFacts S w va l) (hm : RdFacts T w vb m) (n1 : l.length ≤ 1073741824) (n2 : ∀ x ∈ l, x.args.length ≤ 1073741824) (n3 : m.length ≤ 1073741824) (n4 : ∀ x ∈ m, x.args.length ≤ 1073741824) :
    Calls Tryz.prog 64 #[va, vb] w fun e w' => (∃ v', e = .returned v' ∧ Owned 2 RFact w.heap.size 61 (fun q => S q ∧ q < w.heap.size) w' v' (lessF l m)) ∧ Below w.heap.size w w' := by
  obtain ⟨a, c, rfl, -, -, -⟩ := id h.form
  obtain ⟨b, d, rfl, -, -, -⟩ := id hm.form
  have H := Lib.hid (fun W (hW : Below w.heap.size w W) i x (hx : l[i]? = some x) => RdFacts.at (RdSlice.agree RFact.steady (Below.agree hW) (h.more RFact.steady (S' := fun q => S q ∧ q < w.heap.size) (fun b hb hl => ⟨hb, hl⟩))) hx)
  have N2 := Lib.hid n2
  have K := Lib.hid (fun W (x : PFact) (av : Value) (hW : Below w.heap.size w W) (hx : RdStrs (fun _ => True) W av x.args) (nx : x.args.length ≤ 1073741824) => inRef _ m x av W ((hm.more RFact.steady (fun _ _ _ => trivial)).agree RFact.steady (Below.agree (S := fun _ => True) hW)) hx n3 n4 nx)
  clear h n2 hm n4
  go_enter Tryz.func64, Tryz.ntmps64
  go_wp2
  go_loopw [10, 5] (fun i v wr => ∃ k : Nat, k ≤ l.length ∧ i = .int .i64 k ∧ Hid (Owned 2 RFact w.heap.size 61 (fun q => S q ∧ q < w.heap.size) wr v (lessF (l.take k) m)) ∧ Hid (Below w.heap.size w wr)) (fun i _ _ => l.length - (intOf i).toNat)
  case atStart => exact ⟨0, Nat.zero_le _, rfl, Owned.nil, Below.refl _ _⟩
  case round =>
    obtain ⟨k, hk, rfl, HO, HB⟩ := hrel
    by_cases hlt : k < l.length
    · obtain ⟨x, hx⟩ : ∃ x, l[k]? = some x := ⟨_, List.getElem?_eq_getElem hlt⟩
      have hn2 : x.args.length ≤ 1073741824 := N2.out x (List.mem_of_getElem? hx)
      obtain ⟨b1, o1, av, rfl, -, -, hc1, hc2, hav⟩ := H.out wr HB.out k x hx
      obtain ⟨aa, ac, rfl, -, -, -⟩ := id hav.form
      have HT := Lib.hid (show lessF (l.take (k + 1)) m = if memF x m then lessF (l.take k) m else lessF (l.take k) m ++ [x] by rw [List.take_add_one, hx]; exact lessF_snoc (l.take k) m x)
      have HA := Lib.hid hav
      have hsz := HB.out.size
      have hll : (lessF (l.take k) m).length ≤ k := by
        refine Nat.le_trans (List.length_filter_le _ _) ?_
        rw [List.length_take]; exact Nat.min_le_left _ _
      have HLL := Lib.hid hll
      clear hav hx hll
      have HK := Lib.hid (K.out _ x (.slice aa x.args.length ac) (HB.out.alloc hsz (.cells #[.string x.name, .slice aa x.args.length ac] 61)) ((HA.out.more RStr.steady (fun _ _ _ => trivial)).agree RStr.steady ((Agree.refl _ _).alloc _)) hn2)
      cases hmem : memF x m
      · have HM := Lib.hid hmem
        clear hmem
        go_wp2_with (first
          | (go_at_call 62; refine (HK.out).mono ?_; rintro e w0 ⟨rfl, hf0⟩; rw [HM.out]; have HB0 := Lib.hid ((HB.out.alloc hsz _).trans (hf0.below.mono (by simp; omega))); have HO0 := Lib.hid ((HO.out.alloc RFact.steady (.cells #[.string x.name, .slice aa x.args.length ac] 61)).below RFact.steady hf0.below); have HA0 := Lib.hid ((HA.out.agree RStr.steady ((Agree.refl _ _).alloc (.cells #[.string x.name, .slice aa x.args.length ac] 61))).agree RStr.steady (Below.agree hf0.below)); have d0 : w0.cell? ⟨wr.heap.size, 0, none⟩ = some (.string x.name) := (by rw [cell_below hf0.below (by simp)]; simp); have d1 : w0.cell? ⟨wr.heap.size, 1, none⟩ = some (.slice aa x.args.length ac) := (by rw [cell_below hf0.below (by simp)]; simp); clear hf0)
          | (at_builtin; refine wpList_append_one (B := w.heap.size) (e := 61) (S := fun q => S q ∧ q < w.heap.size) (by rfl) _ _ 24 (by rfl) RFact.steady rowFacts _ (lessF (l.take k) m) (by rfl) (HO0.out.alloc RFact.steady _) _ 1 #[.string x.name, .slice aa x.args.length ac] 61 (0, 0) x (by rfl) (heap_alloc_new _ _) rfl (by simp [Value.oneCell']) ⟨_, rfl, (HA0.out.agree RStr.steady ((Agree.refl _ _).alloc _)).more RStr.steady (fun q hq _ => ⟨hq, fun e => by have := (HO0.out.row_lt e.symm).1; have := hq.2; omega⟩)⟩ (by have := HLL.out; omega) (by have := HB0.out.size; simp at this ⊢; omega) ?_; intro v2 w2 hown2 hg2 hat2; have HO2 := Lib.hid (show Owned 2 RFact w.heap.size 61 (fun q => S q ∧ q < w.heap.size) w2 v2 (lessF (l.take (k + 1)) m) by rw [HT.out, HM.out]; exact hown2); have HB2 := Lib.hid ((HB0.out.alloc HB0.out.size _).grown hg2 (by have := HB0.out.size; simp at this ⊢; omega) (fun q hq => (HO.out.row_lt hq).1)); clear hown2 hg2 hat2))
        go_wp2
        go_roundw
        case rel => exact ⟨k + 1, by omega, by go_num, HO2.out, HB2.out⟩
        case measure => simp [intOf]; omega
      · have HM := Lib.hid hmem
        clear hmem
        go_wp2_with (go_at_call 62; refine (HK.out).mono ?_; rintro e w0 ⟨rfl, hf0⟩; rw [HM.out])
        have HB0 := Lib.hid ((HB.out.alloc hsz _).trans (hf0.below.mono (by simp; omega)))
        have HO0 := Lib.hid (show Owned 2 RFact w.heap.size 61 (fun q => S q ∧ q < w.heap.size) w0 _ (lessF (l.take (k + 1)) m) by rw [HT.out, HM.out]; exact ((HO.out.alloc RFact.steady (.cells #[.string x.name, .slice aa x.args.length ac] 61)).below RFact.steady hf0.below))
        clear hf0
        go_wp2
        go_roundw
        case rel => exact ⟨k + 1, by omega, by go_num, HO0.out, HB0.out⟩
        case measure => simp [intOf]; omega
    · have htk : l.take k = l := List.take_of_length_le (by omega)
      rw [htk] at HO
      clear htk
      go_wp2
      go_ret
      exact ⟨⟨_, rfl, HO.out⟩, HB.out⟩

end Go.Proofs.YtbbiapgkcekabaaGreat
