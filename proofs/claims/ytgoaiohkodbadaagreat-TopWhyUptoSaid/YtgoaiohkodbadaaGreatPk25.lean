/-
  THE TEXTS TopY, TopLv, one behind the other.
-/
import Derived.Test.YtgoaiohkodbadaaGreatPk12
import Derived.Test.YtgoaiohkodbadaaGreatPk16
import Derived.Test.YtgoaiohkodbadaaGreatPk22
import Derived.Test.YtgoaiohkodbadaaGreatPk24
/-
  PLAIN: in which round each way followed, and what its proof takes (TopWhy).
-/
namespace Go.Proofs.YtgoaiohkodbadaaGreat

/-! ### Keys -/
def allKeys : List (Nat × Nat) := (List.range 8).flatMap fun a => (List.range 8).map fun b => (a, b)
theorem mem_allKeys {a b : Nat} (ha : a < 8) (hb : b < 8) : (a, b) ∈ allKeys := by unfold allKeys; simp [ha, hb]
theorem key_ways : (allKeys.all fun p => allKeys.all fun q => decide (keyP (wayF p.1 p.2) = keyP (wayF q.1 q.2) → p = q)) = true := by decide +kernel
theorem key_way {a b c d : Nat} (ha : a < 8) (hb : b < 8) (hc : c < 8) (hd : d < 8) (h : keyP (wayF a b) = keyP (wayF c d)) : a = c ∧ b = d := by
  have := of_decide_eq_true (List.all_eq_true.1 (List.all_eq_true.1 key_ways (a, b) (mem_allKeys ha hb)) (c, d) (mem_allKeys hc hd)) h
  injection this with h1 h2
  exact ⟨h1, h2⟩
theorem key_cuts : (allKeys.all fun p => allKeys.all fun q => decide (keyP (cutF p.1 p.2) ≠ keyP (wayF q.1 q.2)) && decide (keyP (cutF p.1 p.2) ≠ keyP (roadF q.1 q.2)) && decide (keyP (wayF p.1 p.2) ≠ keyP (roadF q.1 q.2))) = true := by decide +kernel
theorem key_apart {a b c d : Nat} (ha : a < 8) (hb : b < 8) (hc : c < 8) (hd : d < 8) : keyP (cutF a b) ≠ keyP (wayF c d) ∧ keyP (cutF a b) ≠ keyP (roadF c d) ∧ keyP (wayF a b) ≠ keyP (roadF c d) := by
  have := List.all_eq_true.1 (List.all_eq_true.1 key_cuts (a, b) (mem_allKeys ha hb)) (c, d) (mem_allKeys hc hd)
  simp only [Bool.and_eq_true, decide_eq_true_eq] at this
  exact ⟨this.1.1, this.1.2, this.2⟩
theorem ageMore_other {a : Int} {s : Str} : ∀ {l : List PFact} {m : Str → Option Int}, (∀ z ∈ l, keyP z ≠ s) → ageMore a m l s = m s
  | [], m, _ => rfl
  | z :: l, m, h => by
    show ageMore a (putM m (keyP z) a) l s = m s
    rw [ageMore_other fun y hy => h y (by simp [hy])]
    unfold putM
    rw [if_neg (fun e => h z (by simp) e.symm)]
theorem ageMore_hit {a : Int} {z : PFact} : ∀ {l : List PFact} {m : Str → Option Int}, z ∈ l → ageMore a m l (keyP z) = some a
  | y :: l, m, h => by
    show ageMore a (putM m (keyP y) a) l (keyP z) = some a
    by_cases hl : ∃ x ∈ l, keyP x = keyP z
    · obtain ⟨x, hx, e⟩ := hl
      rw [← e]
      exact ageMore_hit hx
    · rw [ageMore_other fun x hx e => hl ⟨x, hx, e⟩]
      rcases List.mem_cons.1 h with rfl | h
      · unfold putM; rw [if_pos rfl]
      · exact absurd ⟨z, h, rfl⟩ hl
/-! ### Rounds -/
section
variable {n N : Nat} {ps : List (Nat × Nat)}
/-- r rounds of ways are known. -/
structure AgeI (n N : Nat) (ps : List (Nat × Nat)) (r : Nat) (cur : List PFact) (m : Str → Option Int) : Prop where
  rise : Rising cur
  mem : ∀ x, x ∈ cur ↔ x ∈ netL n ps ∨ ∃ a c, a < N ∧ c < N ∧ reachK ps N r a c = true ∧ x = wayF a c
  some_ : ∀ a c, a < N → c < N → reachK ps N r a c = true → ∃ j, m (keyP (wayF a c)) = some ((j + 1 : Nat) : Int) ∧ j + 1 ≤ r ∧ reachK ps N (j + 1) a c = true ∧ reachK ps N j a c = false
  road : ∀ a c, a < N → c < N → m (keyP (roadF a c)) = none
def zR : List (PRule × Int) := roadsP.zip [0, 0, 1]
theorem zR_is : zR = [(rR0, 0), (rR1, 0), (rR2, 1)] := rfl
theorem AgeI.inU (_h : NetOk n N ps) {r : Nat} {cur : List PFact} {m : Str → Option Int} (hi : AgeI n N ps r cur m) : InU (netU n N ps) cur := ⟨hi.rise, fun x hx => by
  rcases (hi.mem x).1 hx with h1 | ⟨a, c, ha, hc, hr, rfl⟩
  · unfold netU; exact List.mem_append_left _ h1
  · exact mem_netU.2 (.inr (.inr (.inl ⟨a, c, ha, hc, reach_any hc hr, rfl⟩)))⟩
theorem road_net {u v : Str} (h : (⟨xroad, [u, v]⟩ : PFact) ∈ netL n ps) : ∃ p ∈ ps, u = tn p.1 ∧ v = tn p.2 := road_in (N := 0) (n := n) (by unfold netU; exact List.mem_append_left _ h)
theorem way_net {u v : Str} : (⟨xway, [u, v]⟩ : PFact) ∉ netL n ps := fun h => by
  rcases mem_netL.1 h with ⟨p, hp, e⟩ | ⟨a, ha, e⟩
  · exact absurd (fact_eq e).1.symm names_ne.1
  · exact absurd (fact_eq e).1 names_ne.2.2.2.2.1
theorem road_cur {r : Nat} {cur : List PFact} {m : Str → Option Int} (hi : AgeI n N ps r cur m) {u v : Str} : (⟨xroad, [u, v]⟩ : PFact) ∈ cur ↔ ∃ p ∈ ps, u = tn p.1 ∧ v = tn p.2 := by
  rw [hi.mem]
  constructor
  · rintro (h1 | ⟨a, c, -, -, -, e⟩)
    · exact road_net h1
    · exact absurd (fact_eq e).1 names_ne.1
  · rintro ⟨p, hp, rfl, rfl⟩; exact .inl (mem_netL.2 (.inl ⟨p, hp, rfl⟩))
theorem way_cur {r : Nat} {cur : List PFact} {m : Str → Option Int} (hi : AgeI n N ps r cur m) {u v : Str} : (⟨xway, [u, v]⟩ : PFact) ∈ cur ↔ ∃ a c, a < N ∧ c < N ∧ reachK ps N r a c = true ∧ u = tn a ∧ v = tn c := by
  rw [hi.mem]
  constructor
  · rintro (h1 | ⟨a, c, ha, hc, hr, e⟩)
    · exact absurd h1 way_net
    · exact ⟨a, c, ha, hc, hr, two_eq (fact_eq e).2⟩
  · rintro ⟨a, c, ha, hc, hr, rfl, rfl⟩; exact .inr ⟨a, c, ha, hc, hr, rfl⟩
theorem age_once (h : NetOk n N ps) {r : Nat} {cur : List PFact} {m : Str → Option Int} (hi : AgeI n N ps r cur m) :
    (onceP 0 cur zR cur).2 = 0 ∧ Rising (onceP 0 cur zR cur).1 ∧ ∀ x, x ∈ (onceP 0 cur zR cur).1 ↔ x ∈ netL n ps ∨ ∃ a c, a < N ∧ c < N ∧ reachK ps N (r + 1) a c = true ∧ x = wayF a c := by
  have h8 := h.nodes
  have hU := hi.inU h
  obtain ⟨h1, h2⟩ := once_fits (net_fit h) (n := 0) hU (ps := zR) (fun r s hm => (List.of_mem_zip hm).1) hU
  have hR := once_round h1 hi.rise (by have := hU.len (net_fit h); omega)
  refine ⟨h1, hR.rise, fun x => ?_⟩
  have hder : (∃ r s, (r, s) ∈ zR ∧ s = 0 ∧ x ∈ (headsP r cur).1) ↔ Derives rR0 cur x ∨ Derives rR1 cur x := by
    constructor
    · rintro ⟨r, s, hm, e, hx⟩
      have hrp : r ∈ roadsP := (List.of_mem_zip hm).1
      have hx' := (mem_heads (heads_fits (net_fit h) hU hrp).1 x).1 hx
      rw [zR_is] at hm
      rcases List.mem_cons.1 hm with hm | hm
      · injection hm with e1 e2; subst e1; exact .inl hx'
      rcases List.mem_cons.1 hm with hm | hm
      · injection hm with e1 e2; subst e1; exact .inr hx'
      · have hm := List.mem_singleton.1 hm
        injection hm with e1 e2
        rw [e] at e2; cases e2
    · rintro (hx | hx)
      · exact ⟨rR0, 0, by rw [zR_is]; simp, rfl, (mem_heads (heads_fits (net_fit h) hU (by rw [roads_is]; simp)).1 x).2 hx⟩
      · exact ⟨rR1, 0, by rw [zR_is]; simp, rfl, (mem_heads (heads_fits (net_fit h) hU (by rw [roads_is]; simp)).1 x).2 hx⟩
  rw [hR.mem, hder, hi.mem]
  constructor
  · rintro ((h1 | ⟨a, c, ha, hc, hr, rfl⟩) | hd | hd)
    · exact .inl h1
    · exact .inr ⟨a, c, ha, hc, reach_succ.2 (.inl hr), rfl⟩
    · obtain ⟨u, v, h1, rfl⟩ := der0.1 hd
      obtain ⟨p, hp, rfl, rfl⟩ := (road_cur hi).1 h1
      obtain ⟨k1, k2⟩ := h.inside p hp
      exact .inr ⟨p.1, p.2, k1, k2, reach_succ.2 (.inr (.inl (by unfold edgeB; simpa using hp))), rfl⟩
    · obtain ⟨u, v, z, h1, h2, rfl⟩ := der1.1 hd
      obtain ⟨a, c, ha, hc, hr, rfl, rfl⟩ := (way_cur hi).1 h1
      obtain ⟨p, hp, e, rfl⟩ := (road_cur hi).1 h2
      obtain ⟨k1, k2⟩ := h.inside p hp
      have e' := tn_inj (by omega) (by omega) e
      subst e'
      exact .inr ⟨a, p.2, ha, k2, reach_succ.2 (.inr (.inr ⟨p.1, k1, hr, by unfold edgeB; simpa using hp⟩)), rfl⟩
  · rintro (h1 | ⟨a, c, ha, hc, hr, rfl⟩)
    · exact .inl (.inl h1)
    · rcases reach_succ.1 hr with h2 | h2 | ⟨b, hb, h2, h3⟩
      · exact .inl (.inr ⟨a, c, ha, hc, h2, rfl⟩)
      · refine .inr (.inl (der0.2 ⟨_, _, (road_cur hi).2 ⟨(a, c), ?_, rfl, rfl⟩, rfl⟩))
        unfold edgeB at h2; simpa using h2
      · refine .inr (.inr (der1.2 ⟨tn a, tn b, tn c, (way_cur hi).2 ⟨a, b, ha, hb, h2, rfl, rfl⟩, (road_cur hi).2 ⟨(b, c), ?_, rfl, rfl⟩, rfl⟩))
        unfold edgeB at h3; simpa using h3
theorem age_more (h : NetOk n N ps) {r : Nat} {cur : List PFact} {m : Str → Option Int} (hi : AgeI n N ps r cur m) :
    AgeI n N ps (r + 1) (onceP 0 cur zR cur).1 (ageMore ((r : Int) + 1) m (lessF (onceP 0 cur zR cur).1 cur)) := by
  have h8 := h.nodes
  obtain ⟨-, h2, h3⟩ := age_once h hi
  have hnew : ∀ z ∈ lessF (onceP 0 cur zR cur).1 cur, ∃ a c, a < N ∧ c < N ∧ reachK ps N (r + 1) a c = true ∧ reachK ps N r a c = false ∧ z = wayF a c := fun z hz => by
    obtain ⟨g1, g2⟩ := (in_lessF _ _ z).1 hz
    rcases (h3 z).1 g1 with k1 | ⟨a, c, ha, hc, hr, rfl⟩
    · exact absurd ((hi.mem z).2 (.inl k1)) g2
    · refine ⟨a, c, ha, hc, hr, ?_, rfl⟩
      cases hb : reachK ps N r a c
      · rfl
      · exact absurd ((hi.mem _).2 (.inr ⟨a, c, ha, hc, hb, rfl⟩)) g2
  refine ⟨h2, h3, fun a c ha hc hr => ?_, fun a c ha hc => ?_⟩
  · cases hb : reachK ps N r a c
    · have hz : wayF a c ∈ lessF (onceP 0 cur zR cur).1 cur := (in_lessF _ _ _).2 ⟨(h3 _).2 (.inr ⟨a, c, ha, hc, hr, rfl⟩), fun hm => by
        obtain ⟨a', c', ha', hc', hr', e1, e2⟩ := (way_cur hi).1 hm
        rw [tn_inj (by omega) (by omega) e1, tn_inj (by omega) (by omega) e2, hr'] at hb
        cases hb⟩
      exact ⟨r, by rw [ageMore_hit hz]; rfl, Nat.le_refl _, hr, hb⟩
    · obtain ⟨j, k1, k2, k3, k4⟩ := hi.some_ a c ha hc hb
      refine ⟨j, ?_, by omega, k3, k4⟩
      rw [ageMore_other fun z hz e => ?_, k1]
      obtain ⟨a', c', ha', hc', -, hn, rfl⟩ := hnew z hz
      obtain ⟨e1, e2⟩ := key_way (by omega) (by omega) (by omega) (by omega) e
      rw [e1, e2, hb] at hn
      cases hn
  · rw [ageMore_other fun z hz e => ?_, hi.road a c ha hc]
    obtain ⟨a', c', ha', hc', -, -, rfl⟩ := hnew z hz
    exact (key_apart (show a' < 8 by omega) (show c' < 8 by omega) (show a < 8 by omega) (show c < 8 by omega)).2.2 e
/-- Behind all rounds of ways. -/
theorem age_in (h : NetOk n N ps) : ∀ (k r : Nat) (cur : List PFact) (m : Str → Option Int), AgeI n N ps r cur m → N ≤ k + r → ∃ r', AgeI n N ps r' (ageIn zR 0 k cur (r : Int) m).1 (ageIn zR 0 k cur (r : Int) m).2.2 ∧ ∀ a c, a < N → c < N → reachK ps N r' a c = reachK ps N N a c
  | 0, r, cur, m, hi, hr => ⟨r, hi, fun a c _ hc => by
    have := reach_full (ps := ps) (a := a) hc (r - N)
    rwa [show N + (r - N) = r by omega] at this⟩
  | k + 1, r, cur, m, hi, hr => by
    have hm := age_more h hi
    rw [ageIn]
    by_cases he : lessF (onceP 0 cur zR cur).1 cur = []
    · rw [if_pos he]
      refine ⟨r + 1, hm, fun a c ha hc => ?_⟩
      have hst : ∀ c, c < N → reachK ps N (r + 1) a c = reachK ps N r a c := fun c hc => bool_iff ⟨fun h1 => by
        have h2 := lessF_nil_iff.1 he _ ((hm.mem _).2 (.inr ⟨a, c, ha, hc, h1, rfl⟩))
        obtain ⟨a', c', ha', hc', hr', e1, e2⟩ := (way_cur hi).1 h2
        have h8 := h.nodes
        rw [tn_inj (by omega) (by omega) e1, tn_inj (by omega) (by omega) e2]
        exact hr', fun h1 => reach_mono h1 1⟩
      have h3 := reach_still hst 1 c hc
      have h4 := reach_still hst N c hc
      rw [show r + N = N + r by omega, reach_full hc] at h4
      rw [h3, ← h4]
    · rw [if_neg he]
      have h2 := age_in h k (r + 1) _ _ hm (by omega)
      rw [show (((r + 1 : Nat) : Int)) = (r : Int) + 1 by omega] at h2
      exact h2
/-- The ages of ways, and of roads, when all is known. -/
structure AgesOk (N : Nat) (ps : List (Nat × Nat)) (T : Str → Option Int) : Prop where
  way : ∀ a c, a < N → c < N → reachK ps N N a c = true → ∃ j, T (keyP (wayF a c)) = some ((j + 1 : Nat) : Int) ∧ reachK ps N (j + 1) a c = true ∧ reachK ps N j a c = false
  road : ∀ a c, a < N → c < N → T (keyP (roadF a c)) = none
/-- The rounds of what is cut off turn nothing there. -/
theorem age_cut (h : NetOk n N ps) : ∀ (k : Nat) (cur : List PFact) (a : Int) (m : Str → Option Int), InU (netU n N ps) cur → AgesOk N ps m → AgesOk N ps (ageIn zR 1 k cur a m).2.2
  | 0, cur, a, m, _, hm => hm
  | k + 1, cur, a, m, hU, hm => by
    have h8 := h.nodes
    have hs := h.sub
    obtain ⟨h1, h2⟩ := once_fits (net_fit h) (n := 1) hU (ps := zR) (fun r s hm => (List.of_mem_zip hm).1) hU
    have hR := once_round h1 hU.1 (by have := hU.len (net_fit h); omega)
    have hnew : ∀ z ∈ lessF (onceP 1 cur zR cur).1 cur, ∃ a c, a < n ∧ c < n ∧ z = cutF a c := fun z hz => by
      obtain ⟨g1, g2⟩ := (in_lessF _ _ z).1 hz
      rcases (hR.mem z).1 g1 with k1 | ⟨r, s, hmm, e, hx⟩
      · exact absurd k1 g2
      · have hrp : r ∈ roadsP := (List.of_mem_zip hmm).1
        have hx' := (mem_heads (heads_fits (net_fit h) hU hrp).1 z).1 hx
        rw [zR_is] at hmm
        rcases List.mem_cons.1 hmm with hmm | hmm
        · injection hmm with e1 e2; rw [e] at e2; cases e2
        rcases List.mem_cons.1 hmm with hmm | hmm
        · injection hmm with e1 e2; rw [e] at e2; cases e2
        · have hmm := List.mem_singleton.1 hmm
          injection hmm with e1 e2
          subst e1
          obtain ⟨u, v, k1, k2, -, rfl⟩ := der2.1 hx'
          obtain ⟨a, ha, rfl⟩ := town_in (hU.2 _ k1)
          obtain ⟨c, hc, rfl⟩ := town_in (hU.2 _ k2)
          exact ⟨a, c, ha, hc, rfl⟩
    have hm' : AgesOk N ps (ageMore (a + 1) m (lessF (onceP 1 cur zR cur).1 cur)) := ⟨fun a c ha hc hr => by
      obtain ⟨j, k1, k2⟩ := hm.way a c ha hc hr
      refine ⟨j, ?_, k2⟩
      rw [ageMore_other fun z hz e => ?_, k1]
      obtain ⟨a', c', ha', hc', rfl⟩ := hnew z hz
      exact (key_apart (show a' < 8 by omega) (show c' < 8 by omega) (show a < 8 by omega) (show c < 8 by omega)).1 e, fun a c ha hc => by
      rw [ageMore_other fun z hz e => ?_, hm.road a c ha hc]
      obtain ⟨a', c', ha', hc', rfl⟩ := hnew z hz
      exact (key_apart (show a' < 8 by omega) (show c' < 8 by omega) (show a < 8 by omega) (show c < 8 by omega)).2.1 e⟩
    rw [ageIn]
    split
    · exact hm'
    · exact age_cut h k _ _ _ h2 hm'
theorem net_ages (h : NetOk n N ps) : AgesOk N ps (agesP [0, 0, 1] roadsP (netL n ps)) := by
  have h0 : AgeI n N ps 0 (netL n ps) (fun _ => none) := ⟨ofF_rising _, fun x => ⟨.inl, fun hx => hx.elim id fun ⟨a, c, _, _, hr, _⟩ => by cases hr⟩, fun a c _ _ hr => (by cases hr), fun _ _ _ _ => rfl⟩
  obtain ⟨r', hi, hst⟩ := age_in h 201 0 _ _ h0 (by have := h.nodes; omega)
  have h1 : AgesOk N ps (ageIn zR 0 201 (netL n ps) ((0 : Nat) : Int) (fun _ => none)).2.2 := ⟨fun a c ha hc hr => by
    obtain ⟨j, k1, -, k3⟩ := hi.some_ a c ha hc (by rw [hst a c ha hc]; exact hr)
    exact ⟨j, k1, k3⟩, hi.road⟩
  have hc2 : (countP [0, 0, 1]).toNat = 2 := by decide +kernel
  unfold agesP
  rw [hc2]
  exact age_cut h 201 _ _ _ (hi.inU h) h1
/-! ### What is found -/
def leavesN : Nat → PProof → List PFact
  | 0, _ => []
  | k + 1, x => if x.rule < 0 then [x.fact] else x.kids.flatMap (leavesN k)
/-- Roads, one behind the other. -/
inductive WalkB (ps : List (Nat × Nat)) (N : Nat) : Nat → Nat → List (Nat × Nat) → Prop
  | one {a c : Nat} : (a, c) ∈ ps → WalkB ps N a c [(a, c)]
  | more {a b c : Nat} {es : List (Nat × Nat)} : b < N → WalkB ps N a b es → (b, c) ∈ ps → WalkB ps N a c (es ++ [(b, c)])
theorem WalkB.sub {a c : Nat} {es : List (Nat × Nat)} (h : WalkB ps N a c es) : ∀ p ∈ es, p ∈ ps := by
  induction h with
  | one h => intro p hp; obtain rfl := List.mem_singleton.1 hp; exact h
  | more _ _ h ih =>
    intro p hp
    rcases List.mem_append.1 hp with hp | hp
    · exact ih p hp
    · obtain rfl := List.mem_singleton.1 hp; exact h
theorem WalkB.reach {a c : Nat} {es : List (Nat × Nat)} (h : WalkB ps N a c es) {E : List (Nat × Nat)} (hE : ∀ p ∈ es, p ∈ E) : reachK E N es.length a c = true := by
  induction h with
  | one _ => exact reach_succ.2 (.inr (.inl (by unfold edgeB; simpa using hE)))
  | more hb _ _ ih =>
    rw [List.length_append]
    exact reach_succ.2 (.inr (.inr ⟨_, hb, ih fun p hp => hE p (List.mem_append_left _ hp), by unfold edgeB; have := hE _ (List.mem_append_right _ (List.mem_singleton.2 rfl)); simpa using this⟩))
def body0 (a c : Nat) : List PAtom := [⟨false, xroad, [⟨false, tn a⟩, ⟨false, tn c⟩]⟩]
def body1 (a c : Nat) : List PAtom := [⟨false, xway, [⟨false, tn a⟩, ⟨true, xY⟩]⟩, ⟨false, xroad, [⟨true, xY⟩, ⟨false, tn c⟩]⟩]
theorem bodies_ok : (allKeys.all fun p => decide (bodyBad (body0 p.1 p.2) = 0) && decide (bodyBad (body1 p.1 p.2) = 0)) = true := by decide +kernel
theorem body0_ok {a c : Nat} (ha : a < 8) (hc : c < 8) : bodyBad (body0 a c) = 0 ∧ bodyBad (body1 a c) = 0 := by
  have := List.all_eq_true.1 bodies_ok (a, c) (mem_allKeys ha hc)
  simpa using this
theorem meet0 (a c : Nat) : meetP rR0.head (wayF a c) [] = some [⟨xX, tn a⟩, ⟨xY, tn c⟩] := by
  unfold meetP
  rw [if_pos ⟨rfl, rfl⟩]
  show meetL [] [⟨true, xX⟩, ⟨true, xY⟩] [tn a, tn c] = _
  simp [meetL, valT, getB, vars_ne.1]
theorem meet1 (a c : Nat) : meetP rR1.head (wayF a c) [] = some [⟨xX, tn a⟩, ⟨xZ, tn c⟩] := by
  unfold meetP
  rw [if_pos ⟨rfl, rfl⟩]
  show meetL [] [⟨true, xX⟩, ⟨true, xZ⟩] [tn a, tn c] = _
  simp [meetL, valT, getB, vars_ne.2.1]
theorem sub0 (a c : Nat) : subBody [⟨xX, tn a⟩, ⟨xY, tn c⟩] rR0.body = body0 a c := by
  simp [subBody, subA, subT, rR0, body0, getB, vars_ne.1]
theorem sub1 (a c : Nat) : subBody [⟨xX, tn a⟩, ⟨xZ, tn c⟩] rR1.body = body1 a c := by
  have h := vars_ne
  simp [subBody, subA, subT, rR1, body1, getB, h.1, h.2.1, Ne.symm h.2.2]
theorem vars_body1 (a c : Nat) (w : Str) : (∃ x ∈ body1 a c, w ∈ varsOf x) ↔ w = xY := by
  simp only [mem_varsOf]
  constructor
  · rintro ⟨x, hx, t, ht, hv, rfl⟩
    rcases List.mem_cons.1 hx with rfl | hx
    · rcases List.mem_cons.1 ht with rfl | ht
      · cases hv
      · obtain rfl := List.mem_singleton.1 ht; rfl
    · obtain rfl := List.mem_singleton.1 hx
      rcases List.mem_cons.1 ht with rfl | ht
      · rfl
      · obtain rfl := List.mem_singleton.1 ht; cases hv
  · rintro rfl
    exact ⟨⟨false, xway, [⟨false, tn a⟩, ⟨true, xY⟩]⟩, List.mem_cons_self .., ⟨true, xY⟩, by simp, rfl, rfl⟩
theorem all_body (h : NetOk n N ps) {body : List PAtom} (hb : bodyBad body = 0) (hp : posN body ≤ 2) : (allP body (netM n ps)).2 = 0 ∧ ∀ m, m ∈ (allP body (netM n ps)).1 ↔ Told (fun _ => netM n ps) body m := by
  have hU := (net_naive h).2
  have h0 : (allP body (netM n ps)).2 = 0 := with_fits hb (hU.set (net_fit h)) (by rw [setF_nil]) (hU.len (net_fit h)) (by simp) hp
  rcases allP_cases body (netM n ps) with ⟨h1, -⟩ | ⟨-, -, -, -, h5⟩
  · exact absurd h0 h1
  · exact ⟨h0, h5⟩
theorem fillV {ng : Bool} {nm u v1 : Str} {m : Binds} {f : PFact} : fillP ⟨ng, nm, [⟨false, u⟩, ⟨true, v1⟩]⟩ m = some f ↔ ∃ v, getB v1 m = some v ∧ f = ⟨nm, [u, v]⟩ := by
  unfold fillP fillArgs valT
  simp only [Bool.false_eq_true, if_false]
  unfold fillArgs valT
  simp only [if_true]
  cases getB v1 m with
  | none => simp
  | some v => simp [fillArgs, eq_comm]
theorem fillW {ng : Bool} {nm u v1 : Str} {m : Binds} {f : PFact} : fillP ⟨ng, nm, [⟨true, v1⟩, ⟨false, u⟩]⟩ m = some f ↔ ∃ v, getB v1 m = some v ∧ f = ⟨nm, [v, u]⟩ := by
  unfold fillP fillArgs valT
  simp only [if_true]
  cases getB v1 m with
  | none => simp
  | some v => simp [fillArgs, valT, eq_comm]
theorem road_M (h : NetOk n N ps) {u v : Str} (hm : (⟨xroad, [u, v]⟩ : PFact) ∈ netM n ps) : ∃ p ∈ ps, u = tn p.1 ∧ v = tn p.2 := road_in ((net_naive h).2.2 _ hm)
theorem way_M (h : NetOk n N ps) {u v : Str} (hm : (⟨xway, [u, v]⟩ : PFact) ∈ netM n ps) : ∃ a c, a < N ∧ c < N ∧ reachK ps N N a c = true ∧ u = tn a ∧ v = tn c := way_in ((net_naive h).2.2 _ hm)
theorem M_road (h : NetOk n N ps) {p : Nat × Nat} (hp : p ∈ ps) : roadF p.1 p.2 ∈ netM n ps := (net_follows h).sub _ (mem_netL.2 (.inl ⟨p, hp, rfl⟩))
theorem age_road {T : Str → Option Int} (hT : AgesOk N ps T) {a c : Nat} (ha : a < N) (hc : c < N) : ageOf T (roadF a c) = 0 := by unfold ageOf; rw [hT.road a c ha hc]; rfl
/-- By a road itself. -/
theorem rule_road (h : NetOk n N ps) {T : Str → Option Int} (hT : AgesOk N ps T) {a c : Nat} (ha : a < N) (hc : c < N) {j : Nat} (hj : ageOf T (wayF a c) = ((j + 1 : Nat) : Int)) (he : edgeB ps a c = true) : ruleG T (netM n ps) rR0 (wayF a c) = some [roadF a c] := by
  have h8 := h.nodes
  have hp : (a, c) ∈ ps := by unfold edgeB at he; simpa using he
  obtain ⟨b0, -⟩ := body0_ok (show a < 8 by omega) (show c < 8 by omega)
  obtain ⟨h0, hL⟩ := all_body h b0 (by show 1 ≤ 2; decide)
  have hk : ∀ b : Binds, kidsOf (body0 a c) b = [roadF a c] := fun b => rfl
  have hin : ([] : Binds) ∈ (allP (body0 a c) (netM n ps)).1 := (hL _).2 ⟨List.Pairwise.nil, List.Pairwise.nil, fun v => by simp [Vs, body0, varsOf, varsF], fun i x hx => by
    cases i with
    | zero =>
      obtain rfl := Option.some.inj hx
      exact ⟨roadF a c, rfl, by rw [(memF_iff _ _).2 (M_road h hp)]; rfl⟩
    | succ i => cases hx⟩
  have hold : ∀ b : Binds, (kidsOf (body0 a c) b).all (olderP T (wayF a c)) = true := fun b => by
    rw [hk]
    simp only [List.all_cons, List.all_nil, Bool.and_true]
    unfold olderP
    rw [age_road hT ha hc, hj]
    exact decide_eq_true (by omega)
  rw [ruleG_some (meet0 a c), sub0, if_neg (by rw [h0]; simp)]
  cases hf : (allP (body0 a c) (netM n ps)).1.find? fun b => (kidsOf (body0 a c) b).all (olderP T (wayF a c)) with
  | none => exact absurd (List.find?_eq_none.1 hf _ hin) (by rw [hold]; simp)
  | some b => rw [Option.map_some, hk]
theorem rule_noroad (h : NetOk n N ps) {T : Str → Option Int} {a c : Nat} (ha : a < N) (hc : c < N) (he : edgeB ps a c = false) : ruleG T (netM n ps) rR0 (wayF a c) = none := by
  have h8 := h.nodes
  obtain ⟨b0, -⟩ := body0_ok (show a < 8 by omega) (show c < 8 by omega)
  obtain ⟨h0, hL⟩ := all_body h b0 (by show 1 ≤ 2; decide)
  rw [ruleG_some (meet0 a c), sub0, if_neg (by rw [h0]; simp)]
  cases hf : (allP (body0 a c) (netM n ps)).1.find? fun b => (kidsOf (body0 a c) b).all (olderP T (wayF a c)) with
  | none => rfl
  | some b =>
    exfalso
    obtain ⟨-, -, -, t4⟩ := (hL b).1 (List.mem_of_find?_eq_some hf)
    obtain ⟨f, h1, h2⟩ := t4 0 _ rfl
    obtain rfl := Option.some.inj h1
    obtain ⟨p, hp, e1, e2⟩ := road_M h ((memF_iff _ _).1 h2)
    obtain ⟨k1, k2⟩ := h.inside p hp
    rw [← tn_inj (by omega) (by omega) e1.symm, ← tn_inj (by omega) (by omega) e2.symm] at he
    unfold edgeB at he
    simp at he
    exact he hp
/-- By a way that is older, and a road. -/
theorem rule_way (h : NetOk n N ps) {T : Str → Option Int} (hT : AgesOk N ps T) {a c : Nat} (ha : a < N) (hc : c < N) {j : Nat} (hj : ageOf T (wayF a c) = ((j + 1 : Nat) : Int)) (hr : reachK ps N (j + 1) a c = true) (hn : reachK ps N j a c = false) (he : edgeB ps a c = false) :
    ∃ b i, b < N ∧ (b, c) ∈ ps ∧ i < j ∧ T (keyP (wayF a b)) = some ((i + 1 : Nat) : Int) ∧ reachK ps N (i + 1) a b = true ∧ reachK ps N i a b = false ∧ ruleG T (netM n ps) rR1 (wayF a c) = some [wayF a b, roadF b c] := by
  have h8 := h.nodes
  obtain ⟨-, b1⟩ := body0_ok (show a < 8 by omega) (show c < 8 by omega)
  obtain ⟨h0, hL⟩ := all_body h b1 (by show 2 ≤ 2; decide)
  have hk : ∀ (b : Binds) (v : Str), getB xY b = some v → kidsOf (body1 a c) b = [⟨xway, [tn a, v]⟩, ⟨xroad, [v, tn c]⟩] := fun b v hv => by
    have e1 : fillP ⟨false, xway, [⟨false, tn a⟩, ⟨true, xY⟩]⟩ b = some ⟨xway, [tn a, v]⟩ := fillV.2 ⟨v, hv, rfl⟩
    have e2 : fillP ⟨false, xroad, [⟨true, xY⟩, ⟨false, tn c⟩]⟩ b = some ⟨xroad, [v, tn c]⟩ := fillW.2 ⟨v, hv, rfl⟩
    unfold kidsOf body1
    simp [e1, e2]
  obtain ⟨b0, hb0, g1, g2⟩ : ∃ b, b < N ∧ reachK ps N j a b = true ∧ edgeB ps b c = true := by
    rcases reach_succ.1 hr with k | k | ⟨b, hb, k1, k2⟩
    · rw [hn] at k; cases k
    · rw [he] at k; cases k
    · exact ⟨b, hb, k1, k2⟩
  have hp0 : (b0, c) ∈ ps := by unfold edgeB at g2; simpa using g2
  have hlow : ∀ {b i : Nat}, b < N → reachK ps N i a b = false → reachK ps N j a b = true → i < j := fun {b i} _ h1 h2 => Classical.byContradiction fun hge => by
    have := reach_mono h2 (i - j)
    rw [show j + (i - j) = i by omega, h1] at this
    cases this
  obtain ⟨i0, q1, q2, q3⟩ := hT.way a b0 ha hb0 (reach_any hb0 g1)
  have hi0 := hlow hb0 q3 g1
  have hin : ([⟨xY, tn b0⟩] : Binds) ∈ (allP (body1 a c) (netM n ps)).1 := (hL _).2 ⟨List.pairwise_singleton .., by unfold Nd Vs; simp, fun v => by
      rw [vars_body1]; simp [Vs], fun i x hx => by
    match i, hx with
    | 0, hx =>
      obtain rfl := Option.some.inj hx
      exact ⟨wayF a b0, fillV.2 ⟨tn b0, by simp [getB], rfl⟩, by rw [net_way h ha hb0, reach_any hb0 g1]; rfl⟩
    | 1, hx =>
      obtain rfl := Option.some.inj hx
      exact ⟨roadF b0 c, fillW.2 ⟨tn b0, by simp [getB], rfl⟩, by rw [(memF_iff _ _).2 (M_road h hp0)]; rfl⟩
    | i + 2, hx => cases hx⟩
  have hold : (kidsOf (body1 a c) [⟨xY, tn b0⟩]).all (olderP T (wayF a c)) = true := by
    rw [hk _ (tn b0) (by simp [getB])]
    have e1 : ageOf T (⟨xway, [tn a, tn b0]⟩ : PFact) = ((i0 + 1 : Nat) : Int) := by unfold ageOf; rw [show keyP (⟨xway, [tn a, tn b0]⟩ : PFact) = keyP (wayF a b0) from rfl, q1]; rfl
    have e2 : ageOf T (⟨xroad, [tn b0, tn c]⟩ : PFact) = 0 := age_road hT hb0 hc
    simp only [List.all_cons, List.all_nil, Bool.and_true, Bool.and_eq_true]
    unfold olderP
    rw [e1, e2, hj]
    exact ⟨decide_eq_true (by omega), decide_eq_true (by omega)⟩
  rw [ruleG_some (meet1 a c), sub1, if_neg (by rw [h0]; simp)]
  cases hf : (allP (body1 a c) (netM n ps)).1.find? fun b => (kidsOf (body1 a c) b).all (olderP T (wayF a c)) with
  | none => exact absurd (List.find?_eq_none.1 hf _ hin) (by rw [hold]; simp)
  | some b =>
    obtain ⟨-, -, -, t4⟩ := (hL b).1 (List.mem_of_find?_eq_some hf)
    obtain ⟨f, h1, h2⟩ := t4 0 _ rfl
    obtain ⟨f', h3, h4⟩ := t4 1 _ rfl
    obtain ⟨v, hv, rfl⟩ := fillV.1 h1
    obtain ⟨v', hv', rfl⟩ := fillW.1 h3
    rw [hv] at hv'
    obtain rfl := Option.some.inj hv'
    obtain ⟨a', b1, ha', hb1, hr1, e1, e2⟩ := way_M h ((memF_iff _ _).1 h2)
    obtain ⟨p, hp, e3, e4⟩ := road_M h ((memF_iff _ _).1 h4)
    obtain ⟨k1, k2⟩ := h.inside p hp
    obtain rfl := tn_inj (by omega) (by omega) e1
    subst e2
    have ep : p = (b1, c) := Prod.ext (tn_inj (by omega) (by omega) e3).symm (tn_inj (by omega) (by omega) e4).symm
    subst ep
    obtain ⟨i1, w1, w2, w3⟩ := hT.way a b1 ha hb1 hr1
    have hP := List.find?_some hf
    rw [hk b _ hv] at hP
    have e5 : ageOf T (⟨xway, [tn a, tn b1]⟩ : PFact) = ((i1 + 1 : Nat) : Int) := by unfold ageOf; rw [show keyP (⟨xway, [tn a, tn b1]⟩ : PFact) = keyP (wayF a b1) from rfl, w1]; rfl
    simp only [List.all_cons, List.all_nil, Bool.and_true, Bool.and_eq_true] at hP
    unfold olderP at hP
    rw [e5, hj] at hP
    have hlt := of_decide_eq_true hP.1
    exact ⟨b1, i1, hb1, hp, by omega, w1, w2, w3, by rw [Option.map_some, hk b _ hv]; rfl⟩
theorem find_road {T : Str → Option Int} {M : List PFact} {p : Nat × Nat} (hp : p ∈ ps) {k s d : Nat} (hs : s + 1 ≤ 400) (hd : d ≤ 60) : findN roadsP (netL n ps) M T (k + 1) s (roadF p.1 p.2) d = (some (.mk (roadF p.1 p.2) (-1) []), s + 1) := by
  rw [findN, if_neg (by omega), if_pos ((memF_iff _ _).2 (mem_netL.2 (.inl ⟨p, hp, rfl⟩)))]
theorem way_told {a c : Nat} : memF (wayF a c) (netL n ps) = false := by
  cases hb : memF (wayF a c) (netL n ps)
  · rfl
  · exact absurd ((memF_iff _ _).1 hb) way_net
/-- A WAY IS PROVED BY ROADS. -/
theorem find_way (h : NetOk n N ps) {T : Str → Option Int} (hT : AgesOk N ps T) : ∀ (k j : Nat) {a c : Nat}, j < k → a < N → c < N → T (keyP (wayF a c)) = some ((j + 1 : Nat) : Int) → reachK ps N (j + 1) a c = true → reachK ps N j a c = false → ∀ {f s d : Nat}, j + 2 ≤ f → s + 2 * (j + 1) ≤ 400 → d + j + 1 ≤ 60 →
    ∃ x s' es, findN roadsP (netL n ps) (netM n ps) T f s (wayF a c) d = (some x, s') ∧ s' ≤ s + 2 * (j + 1) ∧ WalkB ps N a c es ∧ es.length ≤ j + 1 ∧ ∀ g, f ≤ g → leavesN g x = es.map fun p => roadF p.1 p.2
  | 0, j, a, c, hk, _, _, _, _, _, _, _, _, _, _, _ => absurd hk (Nat.not_lt_zero _)
  | k + 1, j, a, c, hk, ha, hc, hTj, hr, hn, f, s, d, hf, hs, hd => by
    obtain ⟨f, rfl⟩ : ∃ i, f = i + 2 := ⟨f - 2, by omega⟩
    have hj : ageOf T (wayF a c) = ((j + 1 : Nat) : Int) := by unfold ageOf; rw [hTj]; rfl
    have e0 : findN roadsP (netL n ps) (netM n ps) T (f + 2) s (wayF a c) d = match pickRule T (netM n ps) (wayF a c) 0 roadsP with
      | none => (none, s + 1)
      | some (i, ks) => match kidsAcc (fun s k => findN roadsP (netL n ps) (netM n ps) T (f + 1) s k (d + 1)) [] (s + 1) ks with
        | (none, s') => (none, s')
        | (some xs, s') => (some (.mk (wayF a c) i xs), s') := by
      rw [findN, if_neg (by omega), way_told]; rfl
    rw [e0, roads_is]
    by_cases he : edgeB ps a c = true
    · have hp : (a, c) ∈ ps := by unfold edgeB at he; simpa using he
      have h1 := rule_road h hT ha hc hj he
      have e1 : pickRule T (netM n ps) (wayF a c) 0 [rR0, rR1, rR2] = some (0, [roadF a c]) := by rw [pickRule, h1]
      rw [e1]
      dsimp only
      have e2 := find_road (n := n) (T := T) (M := netM n ps) hp (k := f) (s := s + 1) (d := d + 1) (by omega) (by omega)
      rw [roads_is] at e2
      rw [kidsAcc, e2]
      refine ⟨_, _, [(a, c)], rfl, by omega, .one hp, by simp, fun g hg => ?_⟩
      obtain ⟨g, rfl⟩ : ∃ i, g = i + 2 := ⟨g - 2, by omega⟩
      rfl
    · have he' : edgeB ps a c = false := by simpa using he
      obtain ⟨b, i, hb, hp, hij, w1, w2, w3, h1⟩ := rule_way h hT ha hc hj hr hn he'
      have e1 : pickRule T (netM n ps) (wayF a c) 0 [rR0, rR1, rR2] = some (1, [wayF a b, roadF b c]) := by rw [pickRule, rule_noroad h ha hc he']; dsimp only; rw [pickRule, h1]
      rw [e1]
      dsimp only
      obtain ⟨x, s', es, g1, g2, g3, g4, g5⟩ := find_way h hT k i (by omega) ha hb w1 w2 w3 (f := f + 1) (s := s + 1) (d := d + 1) (by omega) (by omega) (by omega)
      have e2 := find_road (n := n) (T := T) (M := netM n ps) hp (k := f) (s := s') (d := d + 1) (by omega) (by omega)
      rw [roads_is] at g1 e2
      rw [kidsAcc, g1]
      dsimp only
      rw [kidsAcc, e2]
      refine ⟨_, _, es ++ [(b, c)], rfl, by omega, .more hb g3 hp, by rw [List.length_append, List.length_singleton]; omega, fun g hg => ?_⟩
      obtain ⟨g, rfl⟩ : ∃ i, g = i + 2 := ⟨g - 2, by omega⟩
      show (([] ++ [x]) ++ [PProof.mk (roadF b c) (-1) []]).flatMap (leavesN (g + 1)) = _
      rw [List.nil_append, List.flatMap_append, List.flatMap_singleton, List.flatMap_singleton, g5 (g + 1) (by omega), List.map_append]
      rfl
/-- AND WHY: what is proved of a way; his proof's roads are few, and enough. -/
theorem net_why (h : NetOk n N ps) {a c : Nat} (ha : a < N) (hc : c < N) (hr : reachK ps N N a c = true) :
    ∃ x es, proveP [0, 0, 1] 0 roadsP (netL n ps) (wayF a c) = (some x, 0) ∧ WalkB ps N a c es ∧ es.length ≤ N ∧ ∀ g, 61 ≤ g → leavesN g x = es.map fun p => roadF p.1 p.2 := by
  have h8 := h.nodes
  have hT := net_ages h
  obtain ⟨j, k1, k2, k3⟩ := hT.way a c ha hc hr
  have hjN : j < N := Classical.byContradiction fun hge => by
    have := reach_mono hr (j - N)
    rw [show N + (j - N) = j by omega, k3] at this
    cases this
  obtain ⟨x, s', es, g1, g2, g3, g4, g5⟩ := find_way h hT (j + 1) j (Nat.lt_succ_self _) ha hc k1 k2 k3 (f := 61) (s := 0) (d := 1) (by omega) (by omega) (by omega)
  refine ⟨x, es, ?_, g3, by omega, g5⟩
  have hn := (net_naive h).1
  rw [prove_find (f := wayF a c) (by rw [hn]) (wrong_two (by decide +kernel) (by omega) (by omega)) (by rw [hn]; exact (net_way h ha hc).trans hr)]
  rw [hn]
  dsimp only
  rw [g1]
theorem net_why_not (h : NetOk n N ps) {a c : Nat} (ha : a < N) (hc : c < N) (hr : reachK ps N N a c = false) : proveP [0, 0, 1] 0 roadsP (netL n ps) (wayF a c) = (none, 6) := by
  have h8 := h.nodes
  have hn := (net_naive h).1
  exact prove_out (by rw [hn]) (wrong_two (by decide +kernel) (by omega) (by omega)) (by rw [hn]; exact (net_way h ha hc).trans hr)
/-- Its roads, told alone, are enough. -/
theorem net_enough (h : NetOk n N ps) {a c : Nat} (ha : a < N) (hc : c < N) {es : List (Nat × Nat)} (hw : WalkB ps N a c es) (hl : es.length ≤ N) :
    (naiveP [0, 0, 1] 0 roadsP (ofF (es.map fun p => roadF p.1 p.2))).2 = 0 ∧ memF (wayF a c) (naiveP [0, 0, 1] 0 roadsP (ofF (es.map fun p => roadF p.1 p.2))).1 = true := by
  have h8 := h.nodes
  have hn : NetOk 0 N es := ⟨Nat.zero_le _, Nat.zero_le _, h.nodes, fun p hp => h.inside p (hw.sub p hp), by omega⟩
  have e : ofF (es.map fun p => roadF p.1 p.2) = netL 0 es := by unfold netL; rw [List.range_zero, List.map_nil, List.append_nil]
  rw [e]
  obtain ⟨h1, -⟩ := net_naive hn
  rw [h1]
  refine ⟨rfl, ?_⟩
  rw [net_way hn ha hc]
  exact reach_any hc (hw.reach fun p hp => hp)
end
end Go.Proofs.YtgoaiohkodbadaaGreat

/-
  THE WALK OF corotop.leaves: what a proof takes from what was told.
-/
namespace Go.Proofs.YtgoaiohkodbadaaGreat
open Go.RowKit

/-- What leaves answers: its arguments' rows lie below B, or were made by it. -/
def LeavesPost (B : Nat) (r : List PFact) (w : World) (e : Ending) (w' : World) : Prop :=
  (∃ v, e = .returned v ∧ RdFacts (fun b => b < B ∨ w.heap.size ≤ b) w' v r) ∧ Below w.heap.size w w'
theorem RdFacts.single {S : Nat → Prop} {w : World} {b : Nat} {t : TypeId} {av : Value} {f : PFact} (hb : S b) (hk : Blk w b t #[.string f.name, av]) (hr : RdStrs S w av f.args) : RdFacts S w (.slice (some ⟨b, 0, none⟩) 1 1) [f] := by
  refine ⟨_, _, rfl, Nat.le_refl _, by simp [maxLen], (fun h => by cases h), fun i x hx => ?_⟩
  have hi : i = 0 := by have := (List.getElem?_eq_some_iff.1 hx).1; simp at this; omega
  subst hi
  obtain rfl : f = x := by simpa using hx
  refine ⟨b, 0, [.string f.name, av], rfl, hb, hk.lt, rfl, fun j u hu => ?_, av, rfl, hr⟩
  have := hk.cell (0 + 0 * 2 + j)
  rw [this]
  simpa using hu
theorem flat_take {α β : Type} {f : α → List β} {l : List α} {k : Nat} : ((l.take k).flatMap f).length ≤ (l.flatMap f).length := by
  have : (l.take k).flatMap f ++ (l.drop k).flatMap f = l.flatMap f := by rw [← List.flatMap_append, List.take_append_drop]
  rw [← this, List.length_append]
  omega
set_option maxRecDepth 100000 in
set_option maxHeartbeats 8000000 in
theorem leavesWalk (B : Nat) (f : PFact) (rl : Int) (ks : List PProof) (L : PProof → List PFact) (av : Value) (ka : Option Addr) (kc : Nat) (w : World) (hB : B ≤ w.heap.size) (ha : RdStrs (fun b => b < B) w av f.args)
    (K : ¬ rl < 0 → ∀ (i : Nat) (k : PProof), ks[i]? = some k → ∃ b off a1 n1 c1 a2 n2 c2, ka = some ⟨b, off, none⟩ ∧ b < w.heap.size ∧ w.cell? ⟨b, off + i * 4, none⟩ = some (.string k.fact.name) ∧ w.cell? ⟨b, off + i * 4 + 1, none⟩ = some (.slice a1 n1 c1) ∧ w.cell? ⟨b, off + i * 4 + 2, none⟩ = some (.int .i64 k.rule) ∧ w.cell? ⟨b, off + i * 4 + 3, none⟩ = some (.slice a2 n2 c2) ∧
      ∀ W, Below w.heap.size w W → Calls Tryz.prog 45 #[.agg #[.string k.fact.name, .slice a1 n1 c1, .int .i64 k.rule, .slice a2 n2 c2]] W (LeavesPost B (L k) W))
    (hn : ks.length ≤ 1048576) (hl : ¬ rl < 0 → (ks.flatMap L).length ≤ 1048576) :
    Calls Tryz.prog 45 #[.agg #[.string f.name, av, .int .i64 rl, .slice ka ks.length kc]] w (LeavesPost B (if rl < 0 then [f] else ks.flatMap L) w) := by
  obtain ⟨aa, ac, rfl, -, -, -⟩ := id ha.form
  obtain ⟨W0, hW0⟩ : ∃ W0 : World, w.alloc (.cells #[.string f.name, .slice aa f.args.length ac, .int .i64 rl, .slice ka ks.length kc] 30) = W0 := ⟨_, rfl⟩
  have HB0 := Lib.hid (show Below w.heap.size w W0 by subst hW0; exact (Below.refl _ _).alloc (Nat.le_refl _) _)
  have HX0 := Lib.hid (show Blk W0 w.heap.size 30 #[.string f.name, .slice aa f.args.length ac, .int .i64 rl, .slice ka ks.length kc] by subst hW0; exact Blk.new w _ _)
  have HA0 := Lib.hid (show RdStrs (fun b => b < B) W0 (.slice aa f.args.length ac) f.args from RdSlice.agree RStr.steady (Below.agree HB0.out) ha)
  have HO0 := Lib.hid (show Owned 2 RFact w.heap.size 27 (fun b => b < B ∨ w.heap.size ≤ b) W0 (.slice none 0 0) ((ks.take 0).flatMap L) from Owned.nil)
  have k0 := HX0.out.cell 0; have k1 := HX0.out.cell 1; have k2 := HX0.out.cell 2; have k3 := HX0.out.cell 3
  simp only [List.getElem?_toArray, List.getElem?_cons_zero, List.getElem?_cons_succ] at k0 k1 k2 k3
  clear ha
  by_cases hr : rl < 0
  · rw [if_pos hr]
    clear K hl
    go_enter Tryz.func45, Tryz.ntmps45
    go_wp2
    go_ret
    refine ⟨⟨_, rfl, ?_⟩, HB0.out.alloc HB0.out.size _⟩
    exact RdFacts.single (.inr HB0.out.size) (Blk.new W0 27 #[.string f.name, .slice aa f.args.length ac]) (RdSlice.agree RStr.steady ((Agree.refl _ _).alloc _) (HA0.out.more RStr.steady fun _ h _ => .inl h))
  · rw [if_neg hr]
    have HK := Lib.hid (K hr)
    have hl := hl hr
    clear HA0 K
    go_enter Tryz.func45, Tryz.ntmps45
    go_wp2
    clear k0 k1 k2 k3
    go_loopw [15, 3] (fun i v wr => ∃ k : Nat, k ≤ ks.length ∧ i = .int .i64 k ∧ Hid (Owned 2 RFact w.heap.size 27 (fun b => b < B ∨ w.heap.size ≤ b) wr v ((ks.take k).flatMap L)) ∧ Hid (Below w.heap.size w wr)) (fun i _ _ => ks.length - (intOf i).toNat)
    case atStart => exact ⟨0, Nat.zero_le _, rfl, HO0, HB0⟩
    case round =>
      clear HB0 HO0
      obtain ⟨k, hk, rfl, HO, HB⟩ := hrel
      by_cases hlt : k < ks.length
      · obtain ⟨x, hx⟩ : ∃ x, ks[k]? = some x := ⟨_, List.getElem?_eq_getElem hlt⟩
        obtain ⟨b, off, a1, n1, c1, a2, n2, c2, rfl, hb, d0, d1, d2, d3, KC⟩ := HK.out k x hx
        have e0 := (cell_below HB.out hb _).trans d0
        have e1 := (cell_below HB.out hb _).trans d1
        have e2 := (cell_below HB.out hb _).trans d2
        have e3 := (cell_below HB.out hb _).trans d3
        have hsz := HB.out.size
        have HBX := Lib.hid (Below.alloc HB.out hsz (.cells #[.string x.fact.name, .slice a1 n1 c1, .int .i64 x.rule, .slice a2 n2 c2] 30))
        have HOX := Lib.hid (HO.out.alloc RFact.steady (.cells #[.string x.fact.name, .slice a1 n1 c1, .int .i64 x.rule, .slice a2 n2 c2] 30))
        have KX := Lib.hid (KC _ HBX.out)
        have HTS := Lib.hid (show (ks.take (k + 1)).flatMap L = (ks.take k).flatMap L ++ L x by rw [List.take_add_one, hx, List.flatMap_append]; simp)
        have hl1 := flat_take (f := L) (l := ks) (k := k)
        have hl2 := flat_take (f := L) (l := ks) (k := k + 1)
        rw [HTS.out, List.length_append] at hl2
        clear d0 d1 d2 d3 KC hx
        generalize (ks.take k).flatMap L = out at *
        generalize hY : L x = y at *
        clear hY
        go_wp2_with (first
          | (at_builtin; refine wpList_append_many (B := w.heap.size) (e := 27) (S := fun b => b < B ∨ w.heap.size ≤ b) (by rfl) _ _ 24 (by rfl) RFact.steady RFact.one rowFacts _ out (by rfl) HO2.out _ y (by rfl) HV2.out (fun cs x h => RFact.steady.more (fun b hb _ => ⟨hb.imp id (fun h => Nat.le_trans HBX.out.size h), fun e => by have h1 := HOX.out.row_lt e.symm; rcases hb with hb | hb <;> omega⟩) h) (by omega) HB2.out.size ?_; intro v3 w3 hown3 hg3 hat3; rw [← HTS.out] at hown3; have HO3 := Lib.hid hown3; have HB3 := Lib.hid (Below.grown HB2.out hg3 HB2.out.size (fun q hq => (HO2.out.row_lt hq).1)); clear hown3 hg3 hat3)
          | (go_at_call 45; refine (KX.out).mono ?_; rintro e w2 ⟨⟨v2, rfl, hr2⟩, hb2⟩; obtain ⟨qa, qc, rfl, -, -, -⟩ := id hr2.form; have HV2 := Lib.hid hr2; have HB2 := Lib.hid (HBX.out.trans (hb2.mono HBX.out.size)); have HO2 := Lib.hid (HOX.out.below RFact.steady hb2); clear hr2 hb2))
        go_roundw
        case rel => exact ⟨k + 1, by omega, by go_num, HO3, HB3⟩
        case measure => simp [intOf]; omega
      · have hlt' : ¬ (k : Int) < (ks.length : Int) := by omega
        have hT : ks.take k = ks := List.take_of_length_le (by omega)
        rw [hT] at HO
        obtain rfl : k = ks.length := by omega
        clear hT
        go_wp2
        go_ret
        exact ⟨⟨_, rfl, (HO.out.read RFact.steady).more RFact.steady (fun _ h _ => h.elim id .inr)⟩, HB.out⟩
theorem leaves_kid {n : Nat} {x k : PProof} (hr : ¬ x.rule < 0) (hk : k ∈ x.kids) : (leavesN n k).length ≤ (leavesN (n + 1) x).length := by
  have e : leavesN (n + 1) x = x.kids.flatMap (leavesN n) := by rw [leavesN, if_neg hr]
  rw [e]
  obtain ⟨s, t, hst⟩ := List.append_of_mem hk
  rw [hst, List.flatMap_append, List.flatMap_cons, List.length_append, List.length_append]
  omega
theorem leavesCalls (B : Nat) : ∀ (n : Nat) (x : PProof) (av kv : Value) (w : World), B ≤ w.heap.size → RdStrs (fun b => b < B) w av x.fact.args → RdProofs n (fun b => b < B) w kv x.kids → smallN (n + 1) x → (leavesN (n + 1) x).length ≤ 1048576 →
    Calls Tryz.prog 45 #[.agg #[.string x.fact.name, av, .int .i64 x.rule, kv]] w (LeavesPost B (leavesN (n + 1) x) w)
  | 0, x, av, kv, w, hB, ha, h, hs, hl => by
    obtain ⟨ka, kc, rfl, -, -, -⟩ := id h.form
    have h0 := h.zero
    exact leavesWalk B x.fact x.rule x.kids (leavesN 0) av ka kc w hB ha (fun _ i k hk => by rw [h0] at hk; simp at hk) hs.2.1 (fun _ => by rw [h0]; simp)
  | n + 1, x, av, kv, w, hB, ha, h, hs, hl => by
    obtain ⟨ka, kc, rfl, -, -, -⟩ := id h.form
    refine leavesWalk B x.fact x.rule x.kids (leavesN (n + 1)) av ka kc w hB ha (fun hr i k hk => ?_) hs.2.1 (fun hr => by rwa [leavesN, if_neg hr] at hl)
    obtain ⟨b, off, av1, kv1, e1, -, hb1, d0, d1, d2, d3, hra, hrk⟩ := RdProofs.at h hk
    obtain ⟨a1, c1, rfl, -, -, -⟩ := id hra.form
    obtain ⟨a2, c2, rfl, -, -, -⟩ := id hrk.form
    have hm := List.mem_of_getElem? hk
    exact ⟨b, off, a1, _, c1, a2, _, c2, e1, hb1, d0, d1, d2, d3, fun W hW => leavesCalls B n k _ _ W (Nat.le_trans hB hW.size) (RdSlice.agree RStr.steady (Below.agree hW) hra) (RdSlice.agree (RProofN.steady n) (Below.agree hW) hrk) (hs.2.2 k hm) (Nat.le_trans (leaves_kid hr hm) hl)⟩
end Go.Proofs.YtgoaiohkodbadaaGreat
